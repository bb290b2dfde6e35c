/- Clocks: bars and pauses as the program goes through them; when a bar begins. -/
import Derived.Test.YtnmbglemgkopaaaTpDm
import Derived.Test.YtnmbglemgkopaaaTmSum
import Derived.Test.YtnmbglemgkopaaaTpE
import Derived.Test.YtnmbglemgkopaaaTpH
set_option linter.unusedSectionVars false
set_option linter.unusedVariables false
set_option linter.unusedSimpArgs false
namespace Go.Proofs
open Go.RowKit Go.Kin Go.Kin.Tm
namespace R13
set_option maxHeartbeats 4000000
theorem ti115' : TIOk Try.prog 115 ⟨.other, 1, 8, .nilFunc⟩ := ti_mk (tk_other (by kernel_rfl)) (by kernel_rfl)
def tt2 : List (TypeId × TI) := (115, ⟨.other, 1, 8, .nilFunc⟩) :: R23.tt
instance : TT Try.prog tt2 := ⟨tt_cons ti115' (TT.ok (P := Try.prog) (tt := R23.tt))⟩
/-- a bar or a pause as it is handed to the rounds -/
def ptE (x : Pt) : List Value := [.agg ⟨[.int .i64 x.bar, .int .i64 x.b, .int .i64 x.e, .bool x.play]⟩]
/-- the function of the pauses' lengths, at all worlds that keep what lay -/
def LenAt (w : World) (n : Nat) (len : Nat → Int) (lf : FuncId) (caps : List Value) : Prop :=
  ∀ i, i < n → ∀ W, Below w.heap.size w W → Calls Try.prog lf ⟨[.int .i64 i] ++ caps⟩ W fun e W' => e = .returned (.int .i64 (len i)) ∧ Below W.heap.size W W'
/-- what the iterator reads -/
def Rp (w : World) (b1 b2 : Nat) : Nat → Prop := fun k => base w k ∨ k = b1 ∨ k = b2
theorem drop_head {α : Type} {xs r : List α} {j : Nat} {x : α} (h : xs.drop j = x :: r) : ∃ hj : j < xs.length, xs[j] = x ∧ xs.drop (j + 1) = r := by
  have hj : j < xs.length := by
    rcases Nat.lt_or_ge j xs.length with h' | h'
    · exact h'
    · rw [List.drop_eq_nil_of_le h'] at h; cases h
  rw [List.drop_eq_getElem_cons hj] at h
  simp only [List.cons.injEq] at h
  exact ⟨hj, h.1, h.2⟩
structure PS where
  k : Nat
  i : Nat
  j : Nat
  at' : Int
theorem hasP_yes {ps : List Ps} {i : Nat} {k : Int} (h : hasP ps i k = true) : ∃ p, ps[i]? = some p ∧ p.bar = k := by
  unfold hasP at h
  cases hp : ps[i]? with
  | none => rw [hp] at h; cases h
  | some p => rw [hp] at h; exact ⟨p, rfl, of_decide_eq_true h⟩
theorem hasP_no {ps : List Ps} {i : Nat} {k : Int} {p : Ps} (h : hasP ps i k = false) (hp : ps[i]? = some p) : p.bar ≠ k := by
  unfold hasP at h
  rw [hp] at h
  exact of_decide_eq_false h

set_option maxRecDepth 100000 in
set_option maxHeartbeats 4000000 in
theorem parts_itR (R : Nat → Prop) (c : Clk) (len : Nat → Int) (lf : FuncId) [Ent Try.prog lf] (caps : List Value) (w W1 : World) (b1 b2 : Nat) (hRw : ∀ k, base w k → R k) (hR1 : R b1) (hR2 : R b2) (hR : ∀ k, R k → k < W1.heap.size) (hok : Ok c.n c.ts c.ps c.sp) (hA : c.In w) (hlen : ∀ i, i < c.ps.length → 0 ≤ len i ∧ len i ≤ 1048576)
    (hcl : ∀ i, i < c.ps.length → ∀ W, Same R W1 W → Calls Try.prog lf ⟨[.int .i64 i] ++ caps⟩ W fun e W' => e = .returned (.int .i64 (len i)) ∧ Below W.heap.size W W') (hS : Same (base w) w W1) (h1 : W1.heap[b1]? = some (.cells ⟨c.v⟩ 28 (0, 0))) (h2 : W1.heap[b2]? = some (.cells ⟨[.func (.func lf) ⟨[]⟩ ⟨caps⟩]⟩ 115 (0, 0))) :
    It Try.prog 85 [.pointer (some ⟨b1, 0, none⟩), .pointer (some ⟨b2, 0, none⟩)] ptE (pf (tk c.ts) c.ps len c.n.toNat 0 0 0) R W1 := by
  intro lp J Jx cJ cJx hy h0
  obtain ⟨N, hN⟩ : ∃ N, c.n.toNat = N := ⟨_, rfl⟩
  rw [hN] at hy ⊢
  obtain ⟨xs, hxs⟩ : ∃ xs, pf (tk c.ts) c.ps len N 0 0 0 = xs := ⟨_, rfl⟩
  rw [hxs] at hy ⊢
  have hn1 := hok.n1
  have hn2 := hok.n2
  have hl1 := hok.lim.1
  have hl2 := hok.lim.2.1
  have hhead : head0 c.ts = true := by
    obtain ⟨t, e1, e2⟩ := hok.t0
    cases hts : c.ts with
    | nil => rw [hts] at e1; cases e1
    | cons t l => rw [hts] at e1; cases e1; exact decide_eq_true e2
  have hE1 : Ext W1 R b1 0 c.v := ⟨hR1, fun i v hi => by unfold World.cell?; rw [h1, Nat.zero_add]; simpa using hi⟩
  have hE2 : Ext W1 R b2 0 [.func (.func lf) ⟨[]⟩ ⟨caps⟩] := ⟨hR2, fun i v hi => by unfold World.cell?; rw [h2, Nat.zero_add]; simpa using hi⟩
  have hbel : ∀ {J : (Nat → Prop) → World → Prop} {mem : List (Nat × Obj)} {W : World}, SatW W1 R J mem W → Below w.heap.size w W := fun hm =>
    (hS.trans (hm.same.mono fun k hk => hRw k hk)).below (Nat.le_refl _) fun _ hk => hk
  have hs : SatW W1 R (J 0) [] W1 := ⟨Same.refl _ _, hR, List.nodup_nil, fun p hp => (by cases hp), cJ 0, cJ 0 _ _ _ _ h0 (Same.refl _ _) fun b hb => (by cases hb)⟩
  have hB1 : Kin.At W1 c.B 4 (c.ps.map psE) := hA.b.later (hbel hs)
  have hBR : ∀ b o, c.B = some ⟨b, o, none⟩ → ∀ i, i < c.ps.length → R b := fun b o e i hi => by
    obtain ⟨b', o', e', hc⟩ := ext_at hA.b (List.getElem?_eq_getElem hi)
    rw [e] at e'
    cases e'
    exact hRw _ (lt_of_cell (hc 0 _ rfl))
  obtain ⟨n, ts, ps, sp, A, B, C, ca, cb, cc⟩ := c
  dsimp only [Clk.v] at *
  refine fun_enter Try.func85 rfl Try.ntmps85 rfl rfl hs ?_
  repeat (first | refine l_val rfl rfl (by first | exact pureEval_ok rfl | exact v_load_ext0 rfl (by assumption) rfl (by rfl)  | fail) ?_ | refine l_nil ?_ | refine c_region ?_ | refine c_seq ?_ | refine x_then ?_ | refine c_block ?_  | fail)
  refine c_loopD (ι := PS) (fun q => q.k ≤ N ∧ q.i ≤ ps.length ∧ q.i ≤ q.k ∧ 0 ≤ q.at' ∧ q.at' ≤ 65536 * q.k + 1048576 * q.i ∧ q.j ≤ xs.length ∧ xs.drop q.j = pf (tk ts) ps len (N - q.k) q.k q.at' q.i) (fun _ => []) (fun q => J q.j)
    (fun q => [(0, .func (.yield lp) ⟨[]⟩ ⟨[]⟩), (1, .pointer (some ⟨b1, 0, none⟩)), (2, .pointer (some ⟨b2, 0, none⟩)), (4, .int .i64 q.at'), (5, .int .i64 q.i), (10, .int .i64 n), (11, .int .i64 q.k)]) (fun _ => []) (fun q => N - q.k) ⟨0, 0, 0, 0⟩
    ⟨by simp only; omega, by simp only; omega, by simp only; omega, by simp only; omega, by simp only; omega, by simp only; omega, by simp only [List.drop_zero, Nat.sub_zero]; exact hxs.symm⟩ rfl rfl (by repeat (first | exact EnvSub.nil | refine EnvSub.cons rfl (by first | rfl | (congr 1; done) | (exact congrArg (Value.int _) (by omega)) | (simp; done)) ?_)) (by repeat (first | exact MSub.nil | refine MSub.keep (by first | rfl | assumption) ?_ | refine MSub.drop ?_ | exact MSub.refl _)) ?_
  rintro ⟨k, i, j, at'⟩ ⟨q1, q2, q3, q4, q5, q6, q7⟩
  simp only at q1 q2 q3 q4 q5 q6 q7 ⊢
  by_cases hlt : k < N
  · obtain ⟨f, hf⟩ : ∃ f, N - k = f + 1 := ⟨N - k - 1, by omega⟩
    rw [hf] at q7
    simp only [pf] at q7
    obtain ⟨hj1, e1, q8⟩ := drop_head q7
    obtain ⟨T, hT⟩ : ∃ T, tk ts k = T := ⟨_, rfl⟩
    have hTb := hok.bars k (by omega) (by omega)
    rw [hT] at e1 q8 hTb
    clear q7
    repeat (first | refine l_val rfl rfl (by first | exact pureEval_ok rfl | exact v_load_ext0 rfl (by assumption) rfl (by rfl)  | fail) ?_ | refine l_nil ?_ | refine c_region ?_ | refine c_seq ?_ | refine x_then ?_ | refine c_dec_t rfl (by first | omega  | fail) ?_ | refine c_block ?_ | refine c_skip ?_  | fail)
    refine r_call rfl rfl rfl (fun W hW => ticks_calls (⟨n, ts, ps, sp, A, B, C, ca, cb, cc⟩ : Clk) k W (by simp only; omega) (by simp only; omega) hhead hok.asc (by omega) (by omega) (hA.later (hbel hW))) ?_
    simp only [hT]
    repeat (first | refine l_val rfl rfl (by first | exact v_add rfl rfl (by omega) (by omega) | exact pureEval_ok rfl | exact v_load rfl (by repeat (first | exact List.Mem.head _ | apply List.Mem.tail)) rfl (by rfl) | exact v_build rfl rfl (by rfl)  | fail) ?_ | refine l_nil ?_ | refine c_region ?_ | refine c_seq ?_ | refine x_then ?_ | refine r_alloc rfl rfl rfl (by first | exact aggL  | fail) (fun _ => ?_) | refine r_store rfl rfl rfl rfl rfl rfl rfl (by repeat (first | exact Upd.head | apply Upd.tail)) (by rfl) ?_  | fail)
    refine l_yield rfl rfl rfl rfl rfl (cJ (j + 1)) (cJx j) (fun S A hj hS => by have := hy j hj1 S A hj hS; rw [e1] at this; exact this) ?_ (fun W0 => ?_)
    · repeat (first | refine l_val rfl rfl (by first | exact pureEval_ok rfl | exact v_load rfl (by repeat (first | exact List.Mem.head _ | apply List.Mem.tail)) rfl (by rfl) | exact v_load_ext rfl (by assumption) rfl (by rfl)  | fail) ?_ | refine l_nil ?_ | refine c_region ?_ | refine c_seq ?_ | refine x_then ?_ | refine c_false rfl ?_ | refine c_skip ?_  | fail)
      cases hh : hasP ps i k with
      | true =>
        rw [hh, if_pos rfl] at q8
        obtain ⟨hj2, e2, q9⟩ := drop_head q8
        obtain ⟨p, hp, hpb⟩ := hasP_yes hh
        have hil : i < ps.length := (List.getElem?_eq_some_iff.1 hp).1
        obtain ⟨b, o, rfl, hc⟩ := ext_at hB1 hp
        have he : Ext W1 R b (o + i * 4) (psE p) := ⟨hBR b o rfl i hil, hc⟩
        unfold psE at he
        have hli := hlen i hil
        obtain ⟨X, hX⟩ : ∃ X, len i = X := ⟨_, rfl⟩
        have hcall : ∀ W, Same R W1 W → Calls Try.prog lf ⟨[.int .i64 i] ++ caps⟩ W fun e W' => e = .returned (.int .i64 X) ∧ Below W.heap.size W W' := fun W hW => hX ▸ hcl i hil W hW
        rw [hX] at hli e2 q9
        repeat (first | refine l_val rfl rfl (by first | exact pureEval_ok rfl | exact v_load_ext0 rfl (by assumption) rfl (by rfl) | exact v_load_ext rfl (by assumption) rfl (by rfl) | exact v_index rfl rfl rfl rfl (by omega) (by omega) (by with_reducible first | exact idx4 _ _ _   | fail)  | fail) ?_ | refine l_nil ?_ | refine c_region ?_ | refine c_seq ?_ | refine x_then ?_ | refine c_dec_t rfl (by first | omega  | fail) ?_ | refine l_dec_t rfl rfl rfl rfl rfl (by first | omega  | fail) ?_  | fail)
        refine r_callv rfl rfl rfl rfl rfl (fun W hW => hcall W hW.same) ?_
        repeat (first | refine l_val rfl rfl (by first | exact v_add rfl rfl (by omega) (by omega) | exact pureEval_ok rfl | exact v_load rfl (by repeat (first | exact List.Mem.head _ | apply List.Mem.tail)) rfl (by rfl) | exact v_build rfl rfl (by rfl)  | fail) ?_ | refine l_nil ?_ | refine c_region ?_ | refine c_seq ?_ | refine x_then ?_ | refine r_alloc rfl rfl rfl (by first | exact aggL  | fail) (fun _ => ?_) | refine r_store rfl rfl rfl rfl rfl rfl rfl (by repeat (first | exact Upd.head | apply Upd.tail)) (by rfl) ?_  | fail)
        refine l_yield rfl rfl rfl rfl rfl (cJ (j + 1 + 1)) (cJx (j + 1)) (fun S A hj hS => by have := hy (j + 1) hj2 S A hj hS; rw [e2] at this; exact this) ?_ (fun W0 => ?_)
        · repeat (first | refine l_val rfl rfl (by first | exact v_add rfl rfl (by omega) (by omega) | exact pureEval_ok rfl | exact v_load rfl (by repeat (first | exact List.Mem.head _ | apply List.Mem.tail)) rfl (by rfl)  | fail) ?_ | refine l_nil ?_ | refine c_region ?_ | refine c_seq ?_ | refine x_then ?_ | refine c_false rfl ?_ | refine c_skip ?_ | refine x_block ?_  | fail)
          exact x_backD ⟨k + 1, i + 1, j + 2, at' + T + X⟩ ⟨hlt, hil, by simp only; omega, by simp only; omega, by simp only; omega, hj2, by simp only; rw [show N - (k + 1) = f by omega, q9]; rfl⟩ (by simp only; omega) rfl rfl (by repeat (first | exact EnvSub.nil | refine EnvSub.cons rfl (by first | rfl | (congr 1; done) | (exact congrArg (Value.int _) (by omega)) | (simp; done)) ?_)) (by repeat (first | exact MSub.nil | refine MSub.keep (by first | rfl | assumption) ?_ | refine MSub.drop ?_ | exact MSub.refl _))
        · repeat (first | refine l_val rfl rfl (by first | exact pureEval_ok rfl  | fail) ?_ | refine l_nil ?_ | refine x_then ?_ | refine c_true rfl ?_ | refine c_ret ?_ | refine x_then_ret ?_ | refine x_block_ret ?_  | fail)
          exact x_ret rfl rfl (by repeat (first | exact Res.nil | (apply Res.tmp; rfl) | (apply Res.cell; rfl; exact (by repeat (first | exact List.Mem.head _ | apply List.Mem.tail)); rfl; rfl))) rfl (fun W hW => ⟨⟨_, rfl⟩, .inr ⟨j + 1, by omega, _, hW.word⟩⟩)
      | false =>
        rw [hh, if_neg (by decide)] at q8
        by_cases hil : i < ps.length
        · obtain ⟨p, hp⟩ : ∃ p, ps[i]? = some p := ⟨_, List.getElem?_eq_getElem hil⟩
          have hpb := hasP_no hh hp
          obtain ⟨b, o, rfl, hc⟩ := ext_at hB1 hp
          have he : Ext W1 R b (o + i * 4) (psE p) := ⟨hBR b o rfl i hil, hc⟩
          unfold psE at he
          repeat (first | refine l_val rfl rfl (by first | exact v_add rfl rfl (by omega) (by omega) | exact pureEval_ok rfl | exact v_load_ext0 rfl (by assumption) rfl (by rfl) | exact v_load_ext rfl (by assumption) rfl (by rfl) | exact v_index rfl rfl rfl rfl (by omega) (by omega) (by with_reducible first | exact idx4 _ _ _   | fail)  | fail) ?_ | refine l_nil ?_ | refine c_region ?_ | refine x_then ?_ | refine c_dec_f rfl (by first | omega  | fail) ?_ | refine c_skip ?_ | refine x_block ?_ | refine l_dec_t rfl rfl rfl rfl rfl (by first | omega  | fail) ?_  | fail)
          exact x_backD ⟨k + 1, i, j + 1, at' + T⟩ ⟨hlt, q2, by simp only; omega, by simp only; omega, by simp only; omega, hj1, by simp only; rw [show N - (k + 1) = f by omega, q8]; rfl⟩ (by simp only; omega) rfl rfl (by repeat (first | exact EnvSub.nil | refine EnvSub.cons rfl (by first | rfl | (congr 1; done) | (exact congrArg (Value.int _) (by omega)) | (simp; done)) ?_)) (by repeat (first | exact MSub.nil | refine MSub.keep (by first | rfl | assumption) ?_ | refine MSub.drop ?_ | exact MSub.refl _))
        · repeat (first | refine l_val rfl rfl (by first | exact v_add rfl rfl (by omega) (by omega) | exact pureEval_ok rfl  | fail) ?_ | refine l_nil ?_ | refine c_region ?_ | refine x_then ?_ | refine l_skip rfl rfl ?_ | refine c_false rfl ?_ | refine c_skip ?_ | refine x_block ?_ | refine l_dec_f rfl rfl rfl rfl rfl (by first | omega  | fail) ?_  | fail)
          exact x_backD ⟨k + 1, i, j + 1, at' + T⟩ ⟨hlt, q2, by simp only; omega, by simp only; omega, by simp only; omega, hj1, by simp only; rw [show N - (k + 1) = f by omega, q8]; rfl⟩ (by simp only; omega) rfl rfl (by repeat (first | exact EnvSub.nil | refine EnvSub.cons rfl (by first | rfl | (congr 1; done) | (exact congrArg (Value.int _) (by omega)) | (simp; done)) ?_)) (by repeat (first | exact MSub.nil | refine MSub.keep (by first | rfl | assumption) ?_ | refine MSub.drop ?_ | exact MSub.refl _))
    · repeat (first | refine l_val rfl rfl (by first | exact pureEval_ok rfl  | fail) ?_ | refine l_nil ?_ | refine x_then ?_ | refine c_true rfl ?_ | refine c_ret ?_ | refine x_then_ret ?_ | refine x_block_ret ?_  | fail)
      exact x_ret rfl rfl (by repeat (first | exact Res.nil | (apply Res.tmp; rfl) | (apply Res.cell; rfl; exact (by repeat (first | exact List.Mem.head _ | apply List.Mem.tail)); rfl; rfl))) rfl (fun W hW => ⟨⟨_, rfl⟩, .inr ⟨j, hj1, _, hW.word⟩⟩)
  · have hkN : k = N := by omega
    subst hkN
    rw [Nat.sub_self] at q7
    have hjl : j = xs.length := by
      have := congrArg List.length q7
      simp only [List.length_drop, pf, List.length_nil] at this
      omega
    repeat (first | refine l_val rfl rfl (by first | exact pureEval_ok rfl  | fail) ?_ | refine l_nil ?_ | refine c_region ?_ | refine c_seq ?_ | refine x_then ?_ | refine c_dec_f rfl (by first | omega  | fail) ?_ | refine c_exit ?_ | refine x_then_exit ?_ | refine x_block_same ?_  | fail)
    exact x_end rfl rfl (by repeat (first | exact Res.nil | (apply Res.tmp; rfl) | (apply Res.cell; rfl; exact (by repeat (first | exact List.Mem.head _ | apply List.Mem.tail)); rfl; rfl))) rfl (fun W hW => ⟨⟨_, rfl⟩, .inl ⟨_, by rw [← hjl]; exact hW.word⟩⟩)
theorem parts_it (c : Clk) (len : Nat → Int) (lf : FuncId) [Ent Try.prog lf] (caps : List Value) (w W1 : World) (b1 b2 : Nat) (hok : Ok c.n c.ts c.ps c.sp) (hA : c.In w) (hlen : ∀ i, i < c.ps.length → 0 ≤ len i ∧ len i ≤ 1048576)
    (hcl : LenAt w c.ps.length len lf caps) (hS : Same (base w) w W1) (h1 : W1.heap[b1]? = some (.cells ⟨c.v⟩ 28 (0, 0))) (h2 : W1.heap[b2]? = some (.cells ⟨[.func (.func lf) ⟨[]⟩ ⟨caps⟩]⟩ 115 (0, 0))) :
    It Try.prog 85 [.pointer (some ⟨b1, 0, none⟩), .pointer (some ⟨b2, 0, none⟩)] ptE (pf (tk c.ts) c.ps len c.n.toNat 0 0 0) (Rp w b1 b2) W1 := by
  refine parts_itR (Rp w b1 b2) c len lf caps w W1 b1 b2 (fun k h => .inl h) (.inr (.inl rfl)) (.inr (.inr rfl)) ?_ hok hA hlen (fun i hi W hW => hcl i hi W ((hS.trans (hW.mono fun k hk => .inl hk)).below (Nat.le_refl _) fun _ hk => hk)) hS h1 h2
  rintro k (h | rfl | rfl)
  · have := hS.size; unfold base at h; omega
  · exact lt_of_heap h1
  · exact lt_of_heap h2
end R13
end Go.Proofs

set_option linter.unusedSectionVars false
set_option linter.unusedVariables false
set_option linter.unusedSimpArgs false
namespace Go.Proofs
open Go.RowKit Go.Kin Go.Kin.Tm
namespace R13
set_option maxHeartbeats 4000000
def inE (x : Int) : List Value := [.int .i64 x]


/-- given lengths, for Length and for Locate -/
theorem len_calls (L : Option Addr) (cap b i : Nat) (l : List Int) (w : World) (h1 : w.heap[b]? = some (.cells ⟨[.slice L l.length cap]⟩ 37 (0, 0))) (hi : i < l.length) (hl : l.length ≤ 5000) (hL : Kin.At w L 1 (l.map inE)) :
    Calls Try.prog 58 ⟨[.int .i64 i, .pointer (some ⟨b, 0, none⟩)]⟩ w fun e w' => e = .returned (.int .i64 (lenF l i)) ∧ Below w.heap.size w w' := by
  have g1 := ext_own h1
  obtain ⟨p, hp⟩ : ∃ p, l[i]? = some p := ⟨_, List.getElem?_eq_getElem hi⟩
  obtain ⟨b', o, rfl, hc⟩ := ext_at hL hp
  have he := ext_of hc
  rw [Nat.mul_one] at he
  refine fun_enter Try.func58 rfl Try.ntmps58 rfl rfl (satW_nil w) ?_
  repeat (first | refine l_val rfl rfl (by first | exact pureEval_ok rfl | exact v_load_ext0 rfl (by assumption) rfl (by rfl) | exact v_index rfl rfl rfl rfl (by omega) (by omega) (by with_reducible first | exact idx2 _ _   | fail)  | fail) ?_ | refine l_nil ?_ | refine c_region ?_ | refine c_seq ?_ | refine x_then ?_ | refine c_ret ?_  | fail)
  refine x_ret rfl rfl (by repeat (first | exact Res.nil | (apply Res.tmp; rfl) | (apply Res.cell; rfl; exact (by repeat (first | exact List.Mem.head _ | apply List.Mem.tail)); rfl; rfl))) rfl (fun W hW => ⟨?_, hW.below⟩)
  unfold lenF; rw [List.getD_eq_getElem?_getD, hp]; rfl

theorem parts_calls (c : Clk) (f : Value) (w : World) (hf : cellsL f = [f]) :
    Calls Try.prog 79 ⟨[.agg ⟨c.v⟩, f]⟩ w fun e w' => ∃ q : Nat × Nat, e = .returned (.func (.func 85) ⟨[]⟩ ⟨[.pointer (some ⟨q.1, 0, none⟩), .pointer (some ⟨q.2, 0, none⟩)]⟩) ∧ Below w.heap.size w w' ∧ w.heap.size ≤ q.1 ∧ w'.heap[q.1]? = some (.cells ⟨c.v⟩ 28 (0, 0)) ∧
      w.heap.size ≤ q.2 ∧ w'.heap[q.2]? = some (.cells ⟨[f]⟩ 115 (0, 0)) ∧ q.2 ≠ q.1 := by
  refine fun_enter Try.func79 rfl Try.ntmps79 rfl rfl (satW_nil w) ?_
  repeat (first | refine l_val rfl rfl (by first | exact pureEval_ok rfl  | fail) ?_ | refine l_nil ?_ | refine c_region ?_ | refine c_seq ?_ | refine x_then ?_ | refine r_box rfl rfl rfl rfl (fun _ => ?_) | refine c_ret ?_  | fail)
  rename_i b1 b2
  refine x_ret rfl rfl (by repeat (first | exact Res.nil | (apply Res.tmp; rfl) | (apply Res.cell; rfl; exact (by repeat (first | exact List.Mem.head _ | apply List.Mem.tail)); rfl; rfl))) rfl (fun W hW => ?_)
  have h1 := hW.own (b1, _) (by repeat (first | exact List.Mem.head _ | apply List.Mem.tail))
  have h2 := hW.own (b2, _) (by repeat (first | exact List.Mem.head _ | apply List.Mem.tail))
  have hn := hW.nodup
  simp only [List.map_cons, List.map_nil, List.nodup_cons, List.mem_singleton] at hn
  refine ⟨(b1, b2), rfl, hW.below, Nat.le_of_not_lt h1.1, h1.2, Nat.le_of_not_lt h2.1, by rw [← hf]; exact h2.2, hn.1⟩

set_option maxRecDepth 100000 in
set_option maxHeartbeats 4000000 in
/-- when a bar begins -/
theorem begin_calls (c : Clk) (bar : Int) (len : Nat → Int) (lf : FuncId) [Ent Try.prog lf] (caps : List Value) (w : World) (hok : Ok c.n c.ts c.ps c.sp) (hA : c.In w) (hlen : ∀ i, i < c.ps.length → 0 ≤ len i ∧ len i ≤ 1048576)
    (hcl : LenAt w c.ps.length len lf caps) (hb1 : 0 ≤ bar) (hb2 : bar ≤ c.n) :
    Calls Try.prog 57 ⟨[.agg ⟨c.v⟩, .int .i64 bar, .func (.func lf) ⟨[]⟩ ⟨caps⟩]⟩ w fun e w' => e = .returned (.int .i64 (Bt (tk c.ts) (pa len c.ps 0) bar.toNat)) ∧ Below w.heap.size w w' := by
  have hbg := bg_pf (tk := tk c.ts) (len := len) hok.ascP c.n.toNat 0 0 bar.toNat (at_zero hok.ascP) (Nat.zero_le _) (by omega)
  rw [show ((bar.toNat : Nat) : Int) = bar by omega] at hbg
  obtain ⟨R, hR⟩ : ∃ R, Bt (tk c.ts) (pa len c.ps 0) bar.toNat = R := ⟨_, rfl⟩
  rw [hR] at hbg ⊢
  obtain ⟨xs, hxs⟩ : ∃ xs, pf (tk c.ts) c.ps len c.n.toNat 0 0 0 = xs := ⟨_, rfl⟩
  have hbg : bg xs bar 0 = R := by rw [← hxs]; exact hbg
  refine fun_enter Try.func57 rfl Try.ntmps57 rfl rfl (satW_nil w) ?_
  repeat (first | refine l_val rfl rfl (by first | exact pureEval_ok rfl | exact v_load rfl (by repeat (first | exact List.Mem.head _ | apply List.Mem.tail)) rfl (by rfl)  | fail) ?_ | refine l_nil ?_ | refine c_region ?_ | refine c_seq ?_ | refine x_then ?_ | refine r_box rfl rfl rfl rfl (fun _ => ?_) | refine r_alloc rfl rfl rfl (by first | exact aggL  | fail) (fun _ => ?_)  | fail)
  rename_i b3 b4 b6
  refine r_call2 (ι := Nat × Nat) (bk := Prod.fst) (bk2 := Prod.snd) rfl rfl rfl (fun W hW => parts_calls c _ W rfl) (fun q => ?_)
  obtain ⟨b1, b2⟩ := q
  repeat (first | refine l_nil ?_ | refine x_then ?_ | refine c_block ?_  | fail)
  refine c_range ptE xs (Rp w b1 b2) [(b2, .cells ⟨[.func (.func lf) ⟨[]⟩ ⟨caps⟩]⟩ 115 (0, 0)), (b1, .cells ⟨c.v⟩ 28 (0, 0))] (ι := Nat × Int) (fun o => o.1) (fun o => bg xs bar 0 = bg (xs.drop o.1) bar o.2)
    (fun o => [(b6, .cells ⟨[.int .i64 o.2]⟩ 3 (0, 0)), (b4, .cells ⟨[.int .i64 bar]⟩ 3 (0, 0))])
    (fun c o => c = .exit 0 ∧ o.2 = R) (0, 0) rfl (fun W W1 hW hs => ?_) ?_ (fun _ _ => rfl) (by decide) rfl rfl (by repeat (first | exact MSub.nil | refine MSub.keep (by first | rfl | assumption) ?_ | refine MSub.drop ?_ | exact MSub.refl _))
    (env' := [(4, .pointer (some ⟨b4, 0, none⟩)), (6, .pointer (some ⟨b6, 0, none⟩))]) (by repeat (first | exact EnvSub.nil | refine EnvSub.cons rfl (by first | rfl | (congr 1; done) | (exact congrArg (Value.int _) (by omega)) | (simp; done)) ?_)) ?_ ?_ ?_
  · have m1 := (hW.own (b1, _) (by repeat (first | exact List.Mem.head _ | apply List.Mem.tail))).2
    have m2 := (hW.own (b2, _) (by repeat (first | exact List.Mem.head _ | apply List.Mem.tail))).2
    rw [← hxs]
    exact parts_it c len lf caps w W1 b1 b2 hok hA hlen hcl (hW.same.trans (hs.mono fun _ _ => trivial)) (hs.obj m1 trivial) (hs.obj m2 trivial)
  · rintro b (h | rfl | rfl)
    · exact .inl h
    · exact .inr (by simp)
    · exact .inr (by simp)
  · rintro ⟨k, v⟩ hI hk m lp W1 hW1 hDl hol
    simp only at hI hk ⊢
    obtain ⟨s, hs⟩ : ∃ s, xs[k] = s := ⟨_, rfl⟩
    have hd : xs.drop k = s :: xs.drop (k + 1) := by rw [← hs]; exact List.drop_eq_getElem_cons hk
    rw [hd] at hI
    simp only [bg] at hI
    rw [hs]
    repeat (first | refine l_nil ?_ | refine c_region ?_ | refine r_alloc rfl rfl rfl (by first | exact aggL  | fail) (fun _ => ?_) | refine r_store rfl rfl rfl rfl rfl rfl rfl (by repeat (first | exact Upd.head | apply Upd.tail)) (by rfl) ?_  | fail)
    refine x_body hW1 hDl hol (fun n2 W2 r hW2 hr2 ho => ?_)
    by_cases hc : bar ≤ s.bar
    · rw [if_pos hc] at hI
      repeat (first | refine l_val rfl rfl (by first | exact pureEval_ok rfl | exact v_load rfl (by repeat (first | exact List.Mem.head _ | apply List.Mem.tail)) rfl (by rfl)  | fail) ?_ | refine l_nil ?_ | refine c_region ?_ | refine c_seq ?_ | refine x_then ?_ | refine c_dec_t rfl (by first | omega  | fail) ?_ | refine c_block ?_ | refine c_exit ?_ | refine x_then_exit ?_ | refine x_block_other rfl ?_  | fail)
      refine x_leave (k, v) ⟨rfl, ?_⟩ (by repeat (first | exact MSub.nil | refine MSub.keep (by first | rfl | assumption) ?_ | refine MSub.drop ?_ | exact MSub.refl _))
      simp only; rw [← hI, hbg]
    · rw [if_neg hc] at hI
      repeat (first | refine l_val rfl rfl (by first | exact pureEval_ok rfl | exact v_load rfl (by repeat (first | exact List.Mem.head _ | apply List.Mem.tail)) rfl (by rfl)  | fail) ?_ | refine l_nil ?_ | refine c_region ?_ | refine c_seq ?_ | refine x_then ?_ | refine r_store rfl rfl rfl rfl rfl rfl rfl (by repeat (first | exact Upd.head | apply Upd.tail)) (by rfl) ?_ | refine c_dec_f rfl (by first | omega  | fail) ?_ | refine c_block ?_ | refine c_skip ?_ | refine x_block ?_  | fail)
      exact x_next (k + 1, s.e) rfl hI (by repeat (first | exact MSub.nil | refine MSub.keep (by first | rfl | assumption) ?_ | refine MSub.drop ?_ | exact MSub.refl _))
  · rintro B ⟨k, v⟩ hk hI
    simp only at hk hI
    subst hk
    rw [List.drop_length] at hI
    have hv : v = R := by rw [← hbg, hI]; rfl
    subst hv
    repeat (first | refine l_val rfl rfl (by first | exact v_load rfl (by repeat (first | exact List.Mem.head _ | apply List.Mem.tail)) rfl (by rfl)  | fail) ?_ | refine l_nil ?_ | refine c_region ?_ | refine c_seq ?_ | refine x_then ?_ | refine r_store rfl rfl rfl rfl rfl rfl rfl (by repeat (first | exact Upd.head | apply Upd.tail)) (by rfl) ?_ | refine c_ret ?_ | refine x_block ?_  | fail)
    exact x_rets (Ds := [B]) rfl rfl (by repeat (first | exact Split.nil | exact Split.all | apply Split.mark | apply Split.keep)) rfl (by repeat (first | exact Res.nil | (apply Res.tmp; rfl) | (apply Res.cell; rfl; exact (by repeat (first | exact List.Mem.head _ | apply List.Mem.tail)); rfl; rfl))) rfl (fun W hW => ⟨rfl, hW.below⟩)
  · rintro B _ ⟨k, v⟩ ⟨rfl, hv⟩
    simp only at hv
    subst hv
    repeat (first | refine l_val rfl rfl (by first | exact v_load rfl (by repeat (first | exact List.Mem.head _ | apply List.Mem.tail)) rfl (by rfl)  | fail) ?_ | refine l_nil ?_ | refine c_region ?_ | refine c_seq ?_ | refine x_then ?_ | refine r_store rfl rfl rfl rfl rfl rfl rfl (by repeat (first | exact Upd.head | apply Upd.tail)) (by rfl) ?_ | refine c_ret ?_ | refine c_exit ?_ | refine x_block_same ?_  | fail)
    exact x_rets (Ds := [B]) rfl rfl (by repeat (first | exact Split.nil | exact Split.all | apply Split.mark | apply Split.keep)) rfl (by repeat (first | exact Res.nil | (apply Res.tmp; rfl) | (apply Res.cell; rfl; exact (by repeat (first | exact List.Mem.head _ | apply List.Mem.tail)); rfl; rfl))) rfl (fun W hW => ⟨rfl, hW.below⟩)
end R13
end Go.Proofs

set_option linter.unusedSectionVars false
set_option linter.unusedVariables false
set_option linter.unusedSimpArgs false
namespace Go.Proofs
open Go.RowKit Go.Kin Go.Kin.Tm
namespace R13
set_option maxHeartbeats 4000000
def Clk.k (c : Clk) : Int := chk c.n c.ts c.ps c.sp
/-- few enough for the walks -/
structure Clk.Sm (c : Clk) : Prop where
  a : c.ts.length ≤ 5000
  b : c.ps.length ≤ 5000
  c : c.sp.length ≤ 5000
theorem check_k (c : Clk) (w : World) (hl : c.Sm) (hA : c.In w) : Calls Try.prog 35 ⟨[.agg ⟨c.v⟩]⟩ w fun e w' => e = .returned (.int .i64 c.k) ∧ Below w.heap.size w w' := check_calls c w hl.a hl.b hl.c hA
theorem ok_head {n : Int} {ts : List Tp} {ps : List Ps} {sp : List Sp} (h : Ok n ts ps sp) : head0 ts = true := by
  obtain ⟨t, e1, e2⟩ := h.t0
  cases ts with
  | nil => cases e1
  | cons t l => cases e1; exact decide_eq_true e2
/-- what Ticks answers -/
def tkA (c : Clk) (bar : Int) : Int × Int := if c.k ≠ 0 then (0, c.k) else if 0 ≤ bar ∧ bar ≤ c.n - 1 then (tk c.ts bar, 0) else (0, 1)
def v2 (p : Int × Int) : Value := .tuple ⟨[.int .i64 p.1, .int .i64 p.2]⟩
theorem tkA_no {c : Clk} {bar : Int} (h : c.k ≠ 0) : tkA c bar = (0, c.k) := if_pos h
theorem tkA_in {c : Clk} {bar : Int} (h : c.k = 0) (h2 : 0 ≤ bar ∧ bar ≤ c.n - 1) : tkA c bar = (tk c.ts bar, 0) := by unfold tkA; rw [if_neg (by simp [h]), if_pos h2]
theorem tkA_out {c : Clk} {bar : Int} (h : c.k = 0) (h2 : ¬ (0 ≤ bar ∧ bar ≤ c.n - 1)) : tkA c bar = (0, 1) := by unfold tkA; rw [if_neg (by simp [h]), if_neg h2]

set_option maxRecDepth 100000 in
set_option maxHeartbeats 4000000 in
theorem Ticks_calls (c : Clk) (bar : Int) (w : World) (hl : c.Sm) (hA : c.In w) :
    Calls Try.prog 33 ⟨[.agg ⟨c.v⟩, .int .i64 bar]⟩ w fun e w' => e = .returned (v2 (tkA c bar)) ∧ Below w.heap.size w w' := by
  refine fun_enter Try.func33 rfl Try.ntmps33 rfl rfl (satW_nil w) ?_
  repeat (first | refine l_val rfl rfl (by first | exact pureEval_ok rfl | exact v_load rfl (by repeat (first | exact List.Mem.head _ | apply List.Mem.tail)) rfl (by rfl)  | fail) ?_ | refine l_nil ?_ | refine c_region ?_ | refine c_seq ?_ | refine x_then ?_ | refine r_box rfl rfl rfl rfl (fun _ => ?_)  | fail)
  refine r_call rfl rfl rfl (fun W hW => check_k c W hl (hA.sat hW)) ?_
  by_cases h0 : c.k = 0
  · have hok := chk_ok.1 h0
    have hn1 := hok.n1
    have hn2 := hok.n2
    by_cases hb : 0 ≤ bar ∧ bar ≤ c.n - 1
    · have hb' := hb
      obtain ⟨hb1, hb2⟩ := hb'
      repeat (first | refine l_val rfl rfl (by first | exact v_sub rfl rfl (by omega) (by omega) | exact pureEval_ok rfl | exact v_load rfl (by repeat (first | exact List.Mem.head _ | apply List.Mem.tail)) rfl (by rfl)  | fail) ?_ | refine l_nil ?_ | refine c_region ?_ | refine c_seq ?_ | refine x_then ?_ | refine c_dec_f rfl (by first | omega | exact fun h => h rfl  | fail) ?_ | refine c_skip ?_ | refine c_not_f rfl (by first | omega  | fail) ?_ | (refine r_call rfl rfl rfl (fun W hW => in_calls _ _ _ W) ?_)  | fail)
      refine r_call rfl rfl rfl (fun W hW => ticks_calls c bar W hl.a hn2 (ok_head hok) hok.asc hb1 (by omega) (hA.sat hW)) ?_
      repeat (first | refine l_val rfl rfl (by first | exact pureEval_ok rfl  | fail) ?_ | refine l_nil ?_ | refine x_then ?_ | refine c_ret ?_  | fail)
      exact x_ret rfl rfl (by repeat (first | exact Res.nil | (apply Res.tmp; rfl) | (apply Res.cell; rfl; exact (by repeat (first | exact List.Mem.head _ | apply List.Mem.tail)); rfl; rfl))) rfl (fun W hW => ⟨by rw [tkA_in h0 hb]; rfl, hW.below⟩)
    · repeat (first | refine l_val rfl rfl (by first | exact v_sub rfl rfl (by omega) (by omega) | exact pureEval_ok rfl | exact v_load rfl (by repeat (first | exact List.Mem.head _ | apply List.Mem.tail)) rfl (by rfl)  | fail) ?_ | refine l_nil ?_ | refine c_region ?_ | refine c_seq ?_ | refine x_then ?_ | refine c_dec_f rfl (by first | omega  | fail) ?_ | refine c_skip ?_ | refine c_ret ?_ | refine x_then_ret ?_ | refine c_not_t rfl (by first | omega  | fail) ?_ | (refine r_call rfl rfl rfl (fun W hW => in_calls _ _ _ W) ?_)  | fail)
      exact x_ret rfl rfl (by repeat (first | exact Res.nil | (apply Res.tmp; rfl) | (apply Res.cell; rfl; exact (by repeat (first | exact List.Mem.head _ | apply List.Mem.tail)); rfl; rfl))) rfl (fun W hW => ⟨by rw [tkA_out h0 hb]; rfl, hW.below⟩)
  · repeat (first | refine l_val rfl rfl (by first | exact pureEval_ok rfl  | fail) ?_ | refine l_nil ?_ | refine c_region ?_ | refine c_seq ?_ | refine x_then ?_ | refine c_dec_t rfl (by first | omega  | fail) ?_ | refine c_ret ?_ | refine x_then_ret ?_  | fail)
    exact x_ret rfl rfl (by repeat (first | exact Res.nil | (apply Res.tmp; rfl) | (apply Res.cell; rfl; exact (by repeat (first | exact List.Mem.head _ | apply List.Mem.tail)); rfl; rfl))) rfl (fun W hW => ⟨by rw [tkA_no h0]; rfl, hW.below⟩)

/-- what Begin answers -/
def bgA (c : Clk) (bar : Int) : (Int × Int) × Int :=
  if c.k ≠ 0 then ((0, 0), c.k) else if 0 ≤ bar ∧ bar ≤ c.n then ((Bt (tk c.ts) (pa (loF c.ps) c.ps 0) bar.toNat, Bt (tk c.ts) (pa (hiF c.ps) c.ps 0) bar.toNat), 0) else ((0, 0), 1)
def vB (p : (Int × Int) × Int) : Value := .tuple ⟨[.agg ⟨[.int .i64 p.1.1, .int .i64 p.1.2]⟩, .int .i64 p.2]⟩
theorem bgA_no {c : Clk} {bar : Int} (h : c.k ≠ 0) : bgA c bar = ((0, 0), c.k) := if_pos h
theorem bgA_in {c : Clk} {bar : Int} (h : c.k = 0) (h2 : 0 ≤ bar ∧ bar ≤ c.n) : bgA c bar = ((Bt (tk c.ts) (pa (loF c.ps) c.ps 0) bar.toNat, Bt (tk c.ts) (pa (hiF c.ps) c.ps 0) bar.toNat), 0) := by unfold bgA; rw [if_neg (by simp [h]), if_pos h2]
theorem bgA_out {c : Clk} {bar : Int} (h : c.k = 0) (h2 : ¬ (0 ≤ bar ∧ bar ≤ c.n)) : bgA c bar = ((0, 0), 1) := by unfold bgA; rw [if_neg (by simp [h]), if_neg h2]
theorem lo_bd {n : Int} {ts : List Tp} {ps : List Ps} {sp : List Sp} (h : Ok n ts ps sp) (i : Nat) (hi : i < ps.length) : (0 ≤ loF ps i ∧ loF ps i ≤ 1048576) ∧ (0 ≤ hiF ps i ∧ hiF ps i ≤ 1048576) := by
  obtain ⟨p, hp⟩ : ∃ p, ps[i]? = some p := ⟨_, List.getElem?_eq_getElem hi⟩
  have := ascP_get h.ascP hp
  unfold loF hiF
  rw [getD_of hp]
  omega


/-- whether lengths are lengths of the pauses -/
def lgE (c : Clk) (l : List Int) : Int := if c.k ≠ 0 then c.k else if lensB c.ps l = true then 0 else 1
theorem lgE_no {c : Clk} {l : List Int} (h : c.k ≠ 0) : lgE c l = c.k := if_pos h
theorem lgE_yes {c : Clk} {l : List Int} (h : c.k = 0) (h2 : lensB c.ps l = true) : lgE c l = 0 := by unfold lgE; rw [if_neg (by simp [h]), if_pos h2]
theorem lgE_bad {c : Clk} {l : List Int} (h : c.k = 0) (h2 : ¬ lensB c.ps l = true) : lgE c l = 1 := by unfold lgE; rw [if_neg (by simp [h]), if_neg h2]
theorem lgE_0 {c : Clk} {l : List Int} (h : lgE c l = 0) : Ok c.n c.ts c.ps c.sp ∧ lensB c.ps l = true := by
  by_cases h0 : c.k = 0
  · by_cases h1 : lensB c.ps l = true
    · exact ⟨chk_ok.1 h0, h1⟩
    · rw [lgE_bad h0 h1] at h; cases h
  · rw [lgE_no h0] at h; exact absurd h h0

set_option maxRecDepth 100000 in
set_option maxHeartbeats 4000000 in
theorem lengths_calls (c : Clk) (L : Option Addr) (cap : Nat) (l : List Int) (w : World) (hl : c.Sm) (hl2 : l.length ≤ 9223372036854775807) (hA : c.In w) (hL : Kin.At w L 1 (l.map inE)) :
    Calls Try.prog 56 ⟨[.agg ⟨c.v⟩, .slice L l.length cap]⟩ w fun e w' => e = .returned (.int .i64 (lgE c l)) ∧ Below w.heap.size w w' := by
  refine fun_enter Try.func56 rfl Try.ntmps56 rfl rfl (satW_nil w) ?_
  repeat (first | refine l_val rfl rfl (by first | exact pureEval_ok rfl | exact v_load rfl (by repeat (first | exact List.Mem.head _ | apply List.Mem.tail)) rfl (by rfl)  | fail) ?_ | refine l_nil ?_ | refine c_region ?_ | refine c_seq ?_ | refine x_then ?_ | refine r_box rfl rfl rfl rfl (fun _ => ?_)  | fail)
  rename_i b2
  refine r_call rfl rfl rfl (fun W hW => check_k c W hl (hA.sat hW)) ?_
  by_cases h0 : c.k = 0
  rotate_left
  · repeat (first | refine l_val rfl rfl (by first | exact pureEval_ok rfl  | fail) ?_ | refine l_nil ?_ | refine c_region ?_ | refine c_seq ?_ | refine x_then ?_ | refine c_dec_t rfl (by first | omega  | fail) ?_ | refine c_ret ?_ | refine x_then_ret ?_  | fail)
    exact x_ret rfl rfl (by repeat (first | exact Res.nil | (apply Res.tmp; rfl) | (apply Res.cell; rfl; exact (by repeat (first | exact List.Mem.head _ | apply List.Mem.tail)); rfl; rfl))) rfl (fun W hW => ⟨by rw [lgE_no h0], hW.below⟩)
  obtain ⟨E, hE⟩ : ∃ E, lgE c l = E := ⟨_, rfl⟩
  have hyes : lensB c.ps l = true → E = 0 := fun h => by rw [← hE, lgE_yes h0 h]
  have hno : ¬ lensB c.ps l = true → E = 1 := fun h => by rw [← hE, lgE_bad h0 h]
  rw [hE]
  have hk0 : c.k = 0 := h0
  clear hE
  obtain ⟨hl1, hl3, hl4⟩ := hl
  obtain ⟨n, ts, ps, sp, A, B, C, ca, cb, cc⟩ := c
  have hB := hA.b
  clear hA
  dsimp only [Clk.v] at *
  by_cases hlen : l.length = ps.length
  rotate_left
  · have he := hno fun h => hlen (lensB_iff.1 h).1
    clear hyes hno
    repeat (first | refine l_val rfl rfl (by first | exact pureEval_ok rfl | exact v_load rfl (by repeat (first | exact List.Mem.head _ | apply List.Mem.tail)) rfl (by rfl)  | fail) ?_ | refine l_nil ?_ | refine c_region ?_ | refine c_seq ?_ | refine x_then ?_ | refine c_dec_t rfl (by first | omega  | fail) ?_ | refine c_dec_f rfl (by first | omega  | fail) ?_ | refine c_skip ?_ | refine c_ret ?_ | refine x_then_ret ?_  | fail)
    exact x_ret rfl rfl (by repeat (first | exact Res.nil | (apply Res.tmp; rfl) | (apply Res.cell; rfl; exact (by repeat (first | exact List.Mem.head _ | apply List.Mem.tail)); rfl; rfl))) rfl (fun W hW => ⟨by rw [he], hW.below⟩)
  have hyes' : Unit → lensB ps l = true → E = 0 := fun _ => hyes
  have hno' : Unit → ¬ lensB ps l = true → E = 1 := fun _ => hno
  clear hyes hno
  repeat (first | refine l_val rfl rfl (by first | exact pureEval_ok rfl | exact v_load rfl (by repeat (first | exact List.Mem.head _ | apply List.Mem.tail)) rfl (by rfl)  | fail) ?_ | refine l_nil ?_ | refine c_region ?_ | refine c_seq ?_ | refine x_then ?_ | refine c_dec_f rfl (by first | omega | exact fun h => h rfl  | fail) ?_ | refine c_block ?_ | refine c_skip ?_  | fail)
  refine c_loop (ι := Nat) (fun k => k ≤ ps.length ∧ ∀ (i : Nat) (p : Ps) (x : Int), i < k → ps[i]? = some p → l[i]? = some x → p.lo ≤ x ∧ x ≤ p.hi) (fun k => [(1, .slice L l.length cap), (2, .pointer (some ⟨b2, 0, none⟩)), (19, .slice B ps.length cb), (20, .int .i64 ps.length), (21, .int .i64 k)])
    (fun _ => [(b2, .cells ⟨[.int .i64 n, .slice A ts.length ca, .slice B ps.length cb, .slice C sp.length cc]⟩ 28 (0, 0))]) (fun k => ps.length - k) 0 ⟨by omega, fun i p x h => by omega⟩ (by repeat (first | exact EnvSub.nil | refine EnvSub.cons rfl (by first | rfl | (congr 1; done) | (exact congrArg (Value.int _) (by omega)) | (simp; done)) ?_)) (by repeat (first | exact MSub.nil | refine MSub.keep (by first | rfl | assumption) ?_ | refine MSub.drop ?_ | exact MSub.refl _)) ?_
  rintro k ⟨i1, i2⟩
  by_cases hlt : k < ps.length
  · obtain ⟨t, ht⟩ : ∃ t, ps[k]? = some t := ⟨_, List.getElem?_eq_getElem hlt⟩
    obtain ⟨x, hx⟩ : ∃ x, l[k]? = some x := ⟨_, List.getElem?_eq_getElem (by omega)⟩
    obtain ⟨b', o', rfl, hc⟩ := ext_at hB ht
    obtain ⟨b3, o3, rfl, hc3⟩ := ext_at hL hx
    have he := ext_of hc
    have he3 := ext_of hc3
    rw [Nat.mul_one] at he3
    unfold psE at he
    by_cases hg : t.lo ≤ x ∧ x ≤ t.hi
    · have i2' : Unit → ∀ (i : Nat) (p : Ps) (x : Int), i < k → ps[i]? = some p → l[i]? = some x → p.lo ≤ x ∧ x ≤ p.hi := fun _ => i2
      clear i2
      repeat (first | refine l_val rfl rfl (by first | exact v_add rfl rfl (by omega) (by omega) | exact pureEval_ok rfl | exact v_load_ext0 rfl (by assumption) rfl (by rfl) | exact v_index rfl rfl rfl rfl (by omega) (by omega) (by with_reducible first | exact idx4 _ _ _   | fail)  | fail) ?_ | refine l_nil ?_ | refine c_region ?_ | refine c_seq ?_ | refine x_then ?_ | refine r_alloc rfl rfl rfl (by first | exact aggL  | fail) (fun _ => ?_) | refine r_store rfl rfl rfl rfl rfl rfl rfl (by repeat (first | exact Upd.head | apply Upd.tail)) (by rfl) ?_ | refine c_dec_t rfl (by first | omega  | fail) ?_ | refine c_block ?_ | refine c_skip ?_ | refine x_block ?_ | refine c_reads rfl (by decide +kernel) ?_ | refine q_val rfl rfl (by first | exact pureEval_ok rfl | exact v_load rfl (by repeat (first | exact List.Mem.head _ | apply List.Mem.tail)) rfl (by rfl) | exact v_load_ext0 rfl (by assumption) rfl (by rfl) | exact v_index rfl rfl rfl rfl (by omega) (by omega) (by with_reducible first | exact idx2 _ _   | fail)  | fail) ?_ | refine q_nil ?_ | refine c_not_f rfl (by first | omega  | fail) ?_ | (refine q_call rfl rfl rfl (fun W hW => in_calls _ _ _ W) ?_)  | fail)
      refine x_back (k + 1) ⟨hlt, fun i p y h1 h2 h3 => ?_⟩ (by omega) (by repeat (first | exact EnvSub.nil | refine EnvSub.cons rfl (by first | rfl | (congr 1; done) | (exact congrArg (Value.int _) (by omega)) | (simp; done)) ?_)) (by repeat (first | exact MSub.nil | refine MSub.keep (by first | rfl | assumption) ?_ | refine MSub.drop ?_ | exact MSub.refl _))
      by_cases hik : i = k
      · subst hik; rw [ht] at h2; rw [hx] at h3; cases h2; cases h3; exact hg
      · exact i2' () i p y (by omega) h2 h3
    · have hE := hno' () fun h => hg ((lensB_iff.1 h).2 k t x ht hx)
      clear i2
      repeat (first | refine l_val rfl rfl (by first | exact pureEval_ok rfl | exact v_load_ext0 rfl (by assumption) rfl (by rfl) | exact v_index rfl rfl rfl rfl (by omega) (by omega) (by with_reducible first | exact idx4 _ _ _   | fail)  | fail) ?_ | refine l_nil ?_ | refine c_region ?_ | refine c_seq ?_ | refine x_then ?_ | refine r_alloc rfl rfl rfl (by first | exact aggL  | fail) (fun _ => ?_) | refine r_store rfl rfl rfl rfl rfl rfl rfl (by repeat (first | exact Upd.head | apply Upd.tail)) (by rfl) ?_ | refine c_dec_t rfl (by first | omega  | fail) ?_ | refine c_block ?_ | refine c_skip ?_ | refine c_ret ?_ | refine x_then_ret ?_ | refine x_block_ret ?_ | refine c_reads rfl (by decide +kernel) ?_ | refine q_val rfl rfl (by first | exact pureEval_ok rfl | exact v_load rfl (by repeat (first | exact List.Mem.head _ | apply List.Mem.tail)) rfl (by rfl) | exact v_load_ext0 rfl (by assumption) rfl (by rfl) | exact v_index rfl rfl rfl rfl (by omega) (by omega) (by with_reducible first | exact idx2 _ _   | fail)  | fail) ?_ | refine q_nil ?_ | refine c_not_t rfl (by first | omega  | fail) ?_ | (refine q_call rfl rfl rfl (fun W hW => in_calls _ _ _ W) ?_)  | fail)
      exact x_ret rfl rfl (by repeat (first | exact Res.nil | (apply Res.tmp; rfl) | (apply Res.cell; rfl; exact (by repeat (first | exact List.Mem.head _ | apply List.Mem.tail)); rfl; rfl))) rfl (fun W hW => ⟨by rw [hE], hW.below⟩)
  have hk : k = ps.length := by omega
  subst hk
  have hE := hyes' () (lensB_iff.2 ⟨hlen, fun i p x h1 h2 => i2 i p x (List.getElem?_eq_some_iff.1 h1).1 h1 h2⟩)
  clear i2
  repeat (first | refine l_val rfl rfl (by first | exact pureEval_ok rfl  | fail) ?_ | refine l_nil ?_ | refine c_region ?_ | refine c_seq ?_ | refine x_then ?_ | refine c_dec_f rfl (by first | omega  | fail) ?_ | refine c_ret ?_ | refine c_exit ?_ | refine x_then_exit ?_ | refine x_block_same ?_  | fail)
  exact x_ret rfl rfl (by repeat (first | exact Res.nil | (apply Res.tmp; rfl) | (apply Res.cell; rfl; exact (by repeat (first | exact List.Mem.head _ | apply List.Mem.tail)); rfl; rfl))) rfl (fun W hW => ⟨by rw [hE], hW.below⟩)
end R13
end Go.Proofs

set_option linter.unusedSectionVars false
set_option linter.unusedVariables false
set_option linter.unusedSimpArgs false
namespace Go.Proofs
open Go.RowKit Go.Kin Go.Kin.Tm
namespace R13
set_option maxHeartbeats 4000000
section
variable {P : Program} {N : Nat} {c : Cx} {Q : Exit → Act → World → Prop} {env : List (Nat × Value)} {mem mem' : List (Nat × Obj)} {x : Code}
theorem c_perm (hp : mem.Perm mem') (k : RunC P N c x Q env mem') : RunC P N c x Q env mem := .mk fun a W ha hm => k.run a W ha (hm.perm hp)
end
/-- the lengths that are given -/
theorem lens_bd {n : Int} {ts : List Tp} {ps : List Ps} {sp : List Sp} {l : List Int} (h : Ok n ts ps sp) (h2 : lensB ps l = true) (i : Nat) (hi : i < ps.length) : (0 ≤ lenF l i ∧ lenF l i ≤ 1048576) ∧ i < l.length := by
  obtain ⟨e1, e2⟩ := lensB_iff.1 h2
  obtain ⟨p, hp⟩ : ∃ p, ps[i]? = some p := ⟨_, List.getElem?_eq_getElem hi⟩
  obtain ⟨x, hx⟩ : ∃ x, l[i]? = some x := ⟨_, List.getElem?_eq_getElem (by omega)⟩
  have := ascP_get h.ascP hp
  have h3 := e2 i p x hp hx
  have hl : lenF l i = x := by unfold lenF; rw [List.getD_eq_getElem?_getD, hx]; rfl
  rw [hl]
  exact ⟨by omega, by omega⟩
/-- what Length answers -/
def lnA (c : Clk) (l : List Int) : Int × Int := if lgE c l ≠ 0 then (0, lgE c l) else (Bt (tk c.ts) (pa (lenF l) c.ps 0) c.n.toNat, 0)

set_option maxRecDepth 100000 in
set_option maxHeartbeats 4000000 in
theorem Length_calls (c : Clk) (L : Option Addr) (cap : Nat) (l : List Int) (w : World) (hl : c.Sm) (hl2 : l.length ≤ 9223372036854775807) (hA : c.In w) (hL : Kin.At w L 1 (l.map inE)) :
    Calls Try.prog 32 ⟨[.agg ⟨c.v⟩, .slice L l.length cap]⟩ w fun e w' => e = .returned (v2 (lnA c l)) ∧ Below w.heap.size w w' := by
  refine fun_enter Try.func32 rfl Try.ntmps32 rfl rfl (satW_nil w) ?_
  repeat (first | refine l_val rfl rfl (by first | exact pureEval_ok rfl | exact v_load rfl (by repeat (first | exact List.Mem.head _ | apply List.Mem.tail)) rfl (by rfl)  | fail) ?_ | refine l_nil ?_ | refine c_region ?_ | refine c_seq ?_ | refine x_then ?_ | refine r_box rfl rfl rfl rfl (fun _ => ?_)  | fail)
  rename_i b2 b3
  refine r_call rfl rfl rfl (fun W hW => lengths_calls c L cap l W hl hl2 (hA.sat hW) (hL.sat hW)) ?_
  by_cases h0 : lgE c l = 0
  · obtain ⟨hok, hlen⟩ := lgE_0 h0
    have hv : lnA c l = (Bt (tk c.ts) (pa (lenF l) c.ps 0) c.n.toNat, 0) := by unfold lnA; rw [if_neg (by simp [h0])]
    have hn1 := hok.n1
    rw [h0]
    repeat (first | refine l_val rfl rfl (by first | exact pureEval_ok rfl | exact v_load rfl (by repeat (first | exact List.Mem.head _ | apply List.Mem.tail)) rfl (by rfl)  | fail) ?_ | refine l_nil ?_ | refine c_region ?_ | refine c_seq ?_ | refine x_then ?_ | refine c_false rfl ?_ | refine c_skip ?_  | fail)
    refine r_call rfl rfl rfl (fun W hW => begin_calls c c.n (lenF l) 58 [.pointer (some ⟨b3, 0, none⟩)] W hok (hA.sat hW) (fun i hi => (lens_bd hok hlen i hi).1) (fun i hi W2 hW2 =>
        len_calls L cap b3 i l W2 ((hW2.block _ (hW.lt (p := (b3, _)) (by repeat (first | exact List.Mem.head _ | apply List.Mem.tail)))).trans (hW.own (b3, _) (by repeat (first | exact List.Mem.head _ | apply List.Mem.tail))).2) (lens_bd hok hlen i hi).2 (by have := (lensB_iff.1 hlen).1; have := hl.b; omega) ((hL.sat hW).later hW2)) (by omega) (Int.le_refl _)) ?_
    repeat (first | refine l_val rfl rfl (by first | exact pureEval_ok rfl  | fail) ?_ | refine l_nil ?_ | refine x_then ?_ | refine c_ret ?_  | fail)
    exact x_ret rfl rfl (by repeat (first | exact Res.nil | (apply Res.tmp; rfl) | (apply Res.cell; rfl; exact (by repeat (first | exact List.Mem.head _ | apply List.Mem.tail)); rfl; rfl))) rfl (fun W hW => ⟨by rw [hv]; rfl, hW.below⟩)
  · have hv : lnA c l = (0, lgE c l) := if_pos h0
    repeat (first | refine l_val rfl rfl (by first | exact pureEval_ok rfl  | fail) ?_ | refine l_nil ?_ | refine c_region ?_ | refine c_seq ?_ | refine x_then ?_ | refine c_dec_t rfl (by first | omega  | fail) ?_ | refine c_ret ?_ | refine x_then_ret ?_  | fail)
    exact x_ret rfl rfl (by repeat (first | exact Res.nil | (apply Res.tmp; rfl) | (apply Res.cell; rfl; exact (by repeat (first | exact List.Mem.head _ | apply List.Mem.tail)); rfl; rfl))) rfl (fun W hW => ⟨by rw [hv]; rfl, hW.below⟩)

/-- what Locate answers -/
def lcA (c : Clk) (l : List Int) (t : Int) : (Int × Int × Bool) × Int :=
  if lgE c l ≠ 0 then ((0, 0, false), lgE c l) else match locA (tk c.ts) (pa (lenF l) c.ps 0) c.n.toNat t with
    | some r => (r, 0)
    | none => ((0, 0, false), 1)
def v4 (p : (Int × Int × Bool) × Int) : Value := .tuple ⟨[.int .i64 p.1.1, .int .i64 p.1.2.1, .bool p.1.2.2, .int .i64 p.2]⟩
theorem lcA_no {c : Clk} {l : List Int} {t : Int} (h : lgE c l ≠ 0) : lcA c l t = ((0, 0, false), lgE c l) := if_pos h
theorem lcA_some {c : Clk} {l : List Int} {t : Int} {r : Int × Int × Bool} (h : lgE c l = 0) (h2 : locA (tk c.ts) (pa (lenF l) c.ps 0) c.n.toNat t = some r) : lcA c l t = (r, 0) := by unfold lcA; rw [if_neg (by simp [h]), h2]
theorem lcA_none {c : Clk} {l : List Int} {t : Int} (h : lgE c l = 0) (h2 : locA (tk c.ts) (pa (lenF l) c.ps 0) c.n.toNat t = none) : lcA c l t = ((0, 0, false), 1) := by unfold lcA; rw [if_neg (by simp [h]), h2]
theorem pf_b {tk : Int → Int} {ps : List Ps} {len : Nat → Int} {n : Int} (ht : ∀ k, 0 ≤ k → k < n → 1 ≤ tk k ∧ tk k ≤ 65536) (hl : ∀ i, i < ps.length → 0 ≤ len i ∧ len i ≤ 1048576) : ∀ (f k : Nat) (at' : Int) (i : Nat), (k : Int) + f ≤ n → i ≤ k → 0 ≤ at' → at' ≤ 65536 * k + 1048576 * i →
    ∀ x ∈ pf tk ps len f k at' i, 0 ≤ x.b ∧ x.b ≤ 1114112 * n
  | 0, _, _, _, _, _, _, _, x, hx => by cases hx
  | f + 1, k, at', i, h1, h2, h3, h4, x, hx => by
    have hk := ht k (by omega) (by omega)
    unfold pf at hx
    rcases List.mem_cons.1 hx with rfl | hx
    · simp only; omega
    · cases hh : hasP ps i k with
      | true =>
        rw [hh, if_pos rfl] at hx
        have hil : i < ps.length := by
          unfold hasP at hh
          cases hp : ps[i]? with
          | none => rw [hp] at hh; cases hh
          | some p => exact (List.getElem?_eq_some_iff.1 hp).1
        have hli := hl i hil
        rcases List.mem_cons.1 hx with rfl | hx
        · simp only; omega
        · exact pf_b ht hl f (k + 1) _ (i + 1) (by omega) (by omega) (by omega) (by omega) x hx
      | false =>
        rw [hh, if_neg (by decide)] at hx
        exact pf_b ht hl f (k + 1) _ i (by omega) (by omega) (by omega) (by omega) x hx
theorem loc_drop {xs : List Pt} {t : Int} : ∀ (k : Nat), (∀ i x, i < k → xs[i]? = some x → ¬ t < x.e) → loc xs t = loc (xs.drop k) t
  | 0, _ => rfl
  | k + 1, h => by
    rw [loc_drop k (fun i x hi hx => h i x (by omega) hx)]
    cases hk : xs[k]? with
    | none =>
      have := List.getElem?_eq_none_iff.1 hk
      rw [List.drop_eq_nil_of_le this, List.drop_eq_nil_of_le (by omega)]
    | some x =>
      obtain ⟨h1, h2⟩ := List.getElem?_eq_some_iff.1 hk
      rw [List.drop_eq_getElem_cons h1, h2]
      show (if t < x.e then _ else _) = _
      rw [if_neg (h k x (by omega) hk)]

end R13
end Go.Proofs

set_option linter.unusedSectionVars false
set_option linter.unusedVariables false
set_option linter.unusedSimpArgs false
namespace Go.Proofs
open Go.RowKit Go.Kin Go.Kin.Tm
namespace R13
set_option maxHeartbeats 4000000
theorem rcheckK (c : Clk) (w : World) (hl : c.Sm) (hA : c.In w) : Calls Try.prog 36 ⟨[.agg ⟨c.v⟩]⟩ w fun e w' => e = .returned (.int .i64 c.k) ∧ Below w.heap.size w w' := rcheck_calls c w hl.a hl.b hl.c hA

set_option maxRecDepth 100000 in
set_option maxHeartbeats 4000000 in
theorem rTicks_calls (c : Clk) (bar : Int) (w : World) (hl : c.Sm) (hA : c.In w) :
    Calls Try.prog 37 ⟨[.agg ⟨c.v⟩, .int .i64 bar]⟩ w fun e w' => e = .returned (v2 (tkA c bar)) ∧ Below w.heap.size w w' := by
  refine fun_enter Try.func37 rfl Try.ntmps37 rfl rfl (satW_nil w) ?_
  repeat (first | refine l_val rfl rfl (by first | exact pureEval_ok rfl | exact v_load rfl (by repeat (first | exact List.Mem.head _ | apply List.Mem.tail)) rfl (by rfl)  | fail) ?_ | refine l_nil ?_ | refine c_region ?_ | refine c_seq ?_ | refine x_then ?_ | refine r_box rfl rfl rfl rfl (fun _ => ?_)  | fail)
  refine r_call rfl rfl rfl (fun W hW => rcheckK c W hl (hA.sat hW)) ?_
  by_cases h0 : c.k = 0
  · have hok := chk_ok.1 h0
    have hn1 := hok.n1
    have hn2 := hok.n2
    by_cases hb : 0 ≤ bar ∧ bar ≤ c.n - 1
    · have hb' := hb
      obtain ⟨hb1, hb2⟩ := hb'
      repeat (first | refine l_val rfl rfl (by first | exact v_sub rfl rfl (by omega) (by omega) | exact pureEval_ok rfl | exact v_load rfl (by repeat (first | exact List.Mem.head _ | apply List.Mem.tail)) rfl (by rfl)  | fail) ?_ | refine l_nil ?_ | refine c_region ?_ | refine c_seq ?_ | refine x_then ?_ | refine c_dec_f rfl (by first | omega | exact fun h => h rfl  | fail) ?_ | refine c_skip ?_ | refine c_not_f rfl (by first | omega  | fail) ?_ | (refine r_call rfl rfl rfl (fun W hW => within_calls _ _ _ W) ?_)  | fail)
      refine r_call rfl rfl rfl (fun W hW => rticks_calls c bar W hl.a hn2 (ok_head hok) hok.asc hb1 (by omega) (hA.sat hW)) ?_
      repeat (first | refine l_val rfl rfl (by first | exact pureEval_ok rfl  | fail) ?_ | refine l_nil ?_ | refine x_then ?_ | refine c_ret ?_  | fail)
      exact x_ret rfl rfl (by repeat (first | exact Res.nil | (apply Res.tmp; rfl) | (apply Res.cell; rfl; exact (by repeat (first | exact List.Mem.head _ | apply List.Mem.tail)); rfl; rfl))) rfl (fun W hW => ⟨by rw [tkA_in h0 hb]; rfl, hW.below⟩)
    · repeat (first | refine l_val rfl rfl (by first | exact v_sub rfl rfl (by omega) (by omega) | exact pureEval_ok rfl | exact v_load rfl (by repeat (first | exact List.Mem.head _ | apply List.Mem.tail)) rfl (by rfl)  | fail) ?_ | refine l_nil ?_ | refine c_region ?_ | refine c_seq ?_ | refine x_then ?_ | refine c_dec_f rfl (by first | omega  | fail) ?_ | refine c_skip ?_ | refine c_ret ?_ | refine x_then_ret ?_ | refine c_not_t rfl (by first | omega  | fail) ?_ | (refine r_call rfl rfl rfl (fun W hW => within_calls _ _ _ W) ?_)  | fail)
      exact x_ret rfl rfl (by repeat (first | exact Res.nil | (apply Res.tmp; rfl) | (apply Res.cell; rfl; exact (by repeat (first | exact List.Mem.head _ | apply List.Mem.tail)); rfl; rfl))) rfl (fun W hW => ⟨by rw [tkA_out h0 hb]; rfl, hW.below⟩)
  · repeat (first | refine l_val rfl rfl (by first | exact pureEval_ok rfl  | fail) ?_ | refine l_nil ?_ | refine c_region ?_ | refine c_seq ?_ | refine x_then ?_ | refine c_dec_t rfl (by first | omega  | fail) ?_ | refine c_ret ?_ | refine x_then_ret ?_  | fail)
    exact x_ret rfl rfl (by repeat (first | exact Res.nil | (apply Res.tmp; rfl) | (apply Res.cell; rfl; exact (by repeat (first | exact List.Mem.head _ | apply List.Mem.tail)); rfl; rfl))) rfl (fun W hW => ⟨by rw [tkA_no h0]; rfl, hW.below⟩)

theorem St_bd {tk : Int → Int} {n : Int} (h : ∀ k, 0 ≤ k → k < n → 1 ≤ tk k ∧ tk k ≤ 65536) : ∀ k : Nat, (k : Int) ≤ n → 0 ≤ St tk k ∧ St tk k ≤ 65536 * k
  | 0, _ => by unfold St; omega
  | k + 1, hk => by
    have := St_bd h k (by omega)
    have := h k (by omega) (by omega)
    unfold St; omega
theorem sp_drop {len : Nat → Int} {k : Int} {ps : List Ps} {i : Nat} {p : Ps} (hp : ps[i]? = some p) : sp len (ps.drop i) i k = (if p.bar < k then len i else 0) + sp len (ps.drop (i + 1)) (i + 1) k := by
  rw [drop_cons hp]; rfl


end R13
end Go.Proofs

/- Clocks: when a bar begins; the lengths of pauses. -/
import Derived.Test.YtjagcijgfmclhaaTpP
set_option linter.unusedSectionVars false
set_option linter.unusedVariables false
set_option linter.unusedSimpArgs false
namespace Go.Proofs
open Go.RowKit Go.Kin Go.Kin.Tm
namespace R13
def inE (x : Int) : List Value := [.int .i64 x]
/-- the least lengths -/
theorem lo_calls (c : Clk) (b i : Nat) (w : World) (h1 : w.heap[b]? = some (.cells ⟨c.v⟩ 26 (0, 0))) (hi : i < c.ps.length) (hl : c.ps.length ≤ 5000) (hA : c.In w) :
    Calls Try.prog 32 ⟨[.int .i64 i, .pointer (some ⟨b, 0, none⟩)]⟩ w fun e w' => e = .returned (.int .i64 (loF c.ps i)) ∧ Below w.heap.size w w' := by
  obtain ⟨n, ts, ps, sp, A, B, C, ca, cb, cc⟩ := c
  dsimp only [Clk.v] at *
  have g1 := ext_own h1
  obtain ⟨p, hp⟩ : ∃ p, ps[i]? = some p := ⟨_, List.getElem?_eq_getElem hi⟩
  obtain ⟨b', o, rfl, hc⟩ := ext_at hA.b hp
  have he := ext_of hc
  unfold psE at he
  refine fun_enter Try.func32 rfl Try.ntmps32 rfl rfl (satW_nil w) ?_
  repeat (first | refine l_val rfl rfl (by first | exact pureEval_ok rfl | exact v_load_ext rfl (by assumption) rfl (by rfl) | exact v_index rfl rfl rfl rfl (by omega) (by omega) (by with_reducible first | exact idx4 _ _ _  ) ) ?_ | refine l_nil ?_ | refine c_region ?_ | refine c_seq ?_ | refine x_then ?_ | refine c_ret ?_ )
  refine x_ret rfl rfl (by repeat (first | exact Res.nil | (apply Res.tmp; rfl) | (apply Res.cell; rfl; exact (by repeat (first | exact List.Mem.head _ | apply List.Mem.tail)); rfl; rfl))) rfl (fun W hW => ⟨?_, hW.below⟩)
  unfold loF; rw [getD_of hp]
theorem hi_calls (c : Clk) (b i : Nat) (w : World) (h1 : w.heap[b]? = some (.cells ⟨c.v⟩ 26 (0, 0))) (hi : i < c.ps.length) (hl : c.ps.length ≤ 5000) (hA : c.In w) :
    Calls Try.prog 33 ⟨[.int .i64 i, .pointer (some ⟨b, 0, none⟩)]⟩ w fun e w' => e = .returned (.int .i64 (hiF c.ps i)) ∧ Below w.heap.size w w' := by
  obtain ⟨n, ts, ps, sp, A, B, C, ca, cb, cc⟩ := c
  dsimp only [Clk.v] at *
  have g1 := ext_own h1
  obtain ⟨p, hp⟩ : ∃ p, ps[i]? = some p := ⟨_, List.getElem?_eq_getElem hi⟩
  obtain ⟨b', o, rfl, hc⟩ := ext_at hA.b hp
  have he := ext_of hc
  unfold psE at he
  refine fun_enter Try.func33 rfl Try.ntmps33 rfl rfl (satW_nil w) ?_
  repeat (first | refine l_val rfl rfl (by first | exact pureEval_ok rfl | exact v_load_ext rfl (by assumption) rfl (by rfl) | exact v_index rfl rfl rfl rfl (by omega) (by omega) (by with_reducible first | exact idx4 _ _ _  ) ) ?_ | refine l_nil ?_ | refine c_region ?_ | refine c_seq ?_ | refine x_then ?_ | refine c_ret ?_ )
  refine x_ret rfl rfl (by repeat (first | exact Res.nil | (apply Res.tmp; rfl) | (apply Res.cell; rfl; exact (by repeat (first | exact List.Mem.head _ | apply List.Mem.tail)); rfl; rfl))) rfl (fun W hW => ⟨?_, hW.below⟩)
  unfold hiF; rw [getD_of hp]
/-- given lengths, for Length and for Locate -/
theorem len_calls (L : Option Addr) (cap b i : Nat) (l : List Int) (w : World) (h1 : w.heap[b]? = some (.cells ⟨[.slice L l.length cap]⟩ 38 (0, 0))) (hi : i < l.length) (hl : l.length ≤ 5000) (hL : Kin.At w L 1 (l.map inE)) :
    Calls Try.prog 40 ⟨[.int .i64 i, .pointer (some ⟨b, 0, none⟩)]⟩ w fun e w' => e = .returned (.int .i64 (lenF l i)) ∧ Below w.heap.size w w' := by
  have g1 := ext_own h1
  obtain ⟨p, hp⟩ : ∃ p, l[i]? = some p := ⟨_, List.getElem?_eq_getElem hi⟩
  obtain ⟨b', o, rfl, hc⟩ := ext_at hL hp
  have he := ext_of hc
  rw [Nat.mul_one] at he
  refine fun_enter Try.func40 rfl Try.ntmps40 rfl rfl (satW_nil w) ?_
  repeat (first | refine l_val rfl rfl (by first | exact pureEval_ok rfl | exact v_load_ext0 rfl (by assumption) rfl (by rfl) | exact v_index rfl rfl rfl rfl (by omega) (by omega) (by with_reducible first | exact idx2 _ _  ) ) ?_ | refine l_nil ?_ | refine c_region ?_ | refine c_seq ?_ | refine x_then ?_ | refine c_ret ?_ )
  refine x_ret rfl rfl (by repeat (first | exact Res.nil | (apply Res.tmp; rfl) | (apply Res.cell; rfl; exact (by repeat (first | exact List.Mem.head _ | apply List.Mem.tail)); rfl; rfl))) rfl (fun W hW => ⟨?_, hW.below⟩)
  unfold lenF; rw [List.getD_eq_getElem?_getD, hp]; rfl
theorem len2_calls (L : Option Addr) (cap b i : Nat) (l : List Int) (w : World) (h1 : w.heap[b]? = some (.cells ⟨[.slice L l.length cap]⟩ 38 (0, 0))) (hi : i < l.length) (hl : l.length ≤ 5000) (hL : Kin.At w L 1 (l.map inE)) :
    Calls Try.prog 44 ⟨[.int .i64 i, .pointer (some ⟨b, 0, none⟩)]⟩ w fun e w' => e = .returned (.int .i64 (lenF l i)) ∧ Below w.heap.size w w' := by
  have g1 := ext_own h1
  obtain ⟨p, hp⟩ : ∃ p, l[i]? = some p := ⟨_, List.getElem?_eq_getElem hi⟩
  obtain ⟨b', o, rfl, hc⟩ := ext_at hL hp
  have he := ext_of hc
  rw [Nat.mul_one] at he
  refine fun_enter Try.func44 rfl Try.ntmps44 rfl rfl (satW_nil w) ?_
  repeat (first | refine l_val rfl rfl (by first | exact pureEval_ok rfl | exact v_load_ext0 rfl (by assumption) rfl (by rfl) | exact v_index rfl rfl rfl rfl (by omega) (by omega) (by with_reducible first | exact idx2 _ _  ) ) ?_ | refine l_nil ?_ | refine c_region ?_ | refine c_seq ?_ | refine x_then ?_ | refine c_ret ?_ )
  refine x_ret rfl rfl (by repeat (first | exact Res.nil | (apply Res.tmp; rfl) | (apply Res.cell; rfl; exact (by repeat (first | exact List.Mem.head _ | apply List.Mem.tail)); rfl; rfl))) rfl (fun W hW => ⟨?_, hW.below⟩)
  unfold lenF; rw [List.getD_eq_getElem?_getD, hp]; rfl

theorem parts_calls (c : Clk) (f : Value) (w : World) (hf : cellsL f = [f]) :
    Calls Try.prog 43 ⟨[.agg ⟨c.v⟩, f]⟩ w fun e w' => ∃ q : Nat × Nat, e = .returned (.func (.func 51) ⟨[]⟩ ⟨[.pointer (some ⟨q.1, 0, none⟩), .pointer (some ⟨q.2, 0, none⟩)]⟩) ∧ Below w.heap.size w w' ∧ w.heap.size ≤ q.1 ∧ w'.heap[q.1]? = some (.cells ⟨c.v⟩ 26 (0, 0)) ∧
      w.heap.size ≤ q.2 ∧ w'.heap[q.2]? = some (.cells ⟨[f]⟩ 62 (0, 0)) ∧ q.2 ≠ q.1 := by
  refine fun_enter Try.func43 rfl Try.ntmps43 rfl rfl (satW_nil w) ?_
  repeat (first | refine l_val rfl rfl (by first | exact pureEval_ok rfl ) ?_ | refine l_nil ?_ | refine c_region ?_ | refine c_seq ?_ | refine x_then ?_ | refine r_box rfl rfl rfl rfl (fun _ => ?_) | refine c_ret ?_ )
  rename_i b1 b2
  refine x_ret rfl rfl (by repeat (first | exact Res.nil | (apply Res.tmp; rfl) | (apply Res.cell; rfl; exact (by repeat (first | exact List.Mem.head _ | apply List.Mem.tail)); rfl; rfl))) rfl (fun W hW => ?_)
  have h1 := hW.own (b1, _) (by repeat (first | exact List.Mem.head _ | apply List.Mem.tail))
  have h2 := hW.own (b2, _) (by repeat (first | exact List.Mem.head _ | apply List.Mem.tail))
  have hn := hW.nodup
  simp only [List.map_cons, List.map_nil, List.nodup_cons, List.mem_singleton] at hn
  refine ⟨(b1, b2), rfl, hW.below, Nat.le_of_not_lt h1.1, h1.2, Nat.le_of_not_lt h2.1, by rw [← hf]; exact h2.2, hn.1⟩

set_option maxRecDepth 100000 in
set_option maxHeartbeats 4000000 in
/-- when a bar begins -/
theorem begin_calls (c : Clk) (bar : Int) (len : Nat → Int) (lf : FuncId) [Ent Try.prog lf] (caps : List Value) (w : World) (hok : Ok c.n c.ts c.ps c.sp) (hA : c.In w) (hlen : ∀ i, i < c.ps.length → 0 ≤ len i ∧ len i ≤ 1048576)
    (hcl : LenAt w c.ps.length len lf caps) (hb1 : 0 ≤ bar) (hb2 : bar ≤ c.n) :
    Calls Try.prog 31 ⟨[.agg ⟨c.v⟩, .int .i64 bar, .func (.func lf) ⟨[]⟩ ⟨caps⟩]⟩ w fun e w' => e = .returned (.int .i64 (Bt (tk c.ts) (pa len c.ps 0) bar.toNat)) ∧ Below w.heap.size w w' := by
  have hbg := bg_pf (tk := tk c.ts) (len := len) hok.ascP c.n.toNat 0 0 bar.toNat (at_zero hok.ascP) (Nat.zero_le _) (by omega)
  rw [show ((bar.toNat : Nat) : Int) = bar by omega] at hbg
  obtain ⟨R, hR⟩ : ∃ R, Bt (tk c.ts) (pa len c.ps 0) bar.toNat = R := ⟨_, rfl⟩
  rw [hR] at hbg ⊢
  obtain ⟨xs, hxs⟩ : ∃ xs, pf (tk c.ts) c.ps len c.n.toNat 0 0 0 = xs := ⟨_, rfl⟩
  have hbg : bg xs bar 0 = R := by rw [← hxs]; exact hbg
  refine fun_enter Try.func31 rfl Try.ntmps31 rfl rfl (satW_nil w) ?_
  repeat (first | refine l_val rfl rfl (by first | exact pureEval_ok rfl | exact v_load rfl (by repeat (first | exact List.Mem.head _ | apply List.Mem.tail)) rfl (by rfl) ) ?_ | refine l_nil ?_ | refine c_region ?_ | refine c_seq ?_ | refine x_then ?_ | refine r_box rfl rfl rfl rfl (fun _ => ?_) | refine r_alloc rfl rfl rfl (by first | exact aggL ) (fun _ => ?_) )
  rename_i b3 b4 b6
  refine r_call2 (ι := Nat × Nat) (bk := Prod.fst) (bk2 := Prod.snd) rfl rfl rfl (fun W hW => parts_calls c _ W rfl) (fun q => ?_)
  obtain ⟨b1, b2⟩ := q
  repeat (first | refine l_nil ?_ | refine x_then ?_ | refine c_block ?_ )
  refine c_range ptE xs (Rp w b1 b2) [(b2, .cells ⟨[.func (.func lf) ⟨[]⟩ ⟨caps⟩]⟩ 62 (0, 0)), (b1, .cells ⟨c.v⟩ 26 (0, 0))] (ι := Nat × Int) (fun o => o.1) (fun o => bg xs bar 0 = bg (xs.drop o.1) bar o.2)
    (fun o => [(b6, .cells ⟨[.int .i64 o.2]⟩ 3 (0, 0)), (b4, .cells ⟨[.int .i64 bar]⟩ 3 (0, 0))])
    (fun c o => c = .exit 0 ∧ o.2 = R) (0, 0) rfl (fun W W1 hW hs => ?_) ?_ (fun _ _ => rfl) (by decide) rfl rfl (by repeat (first | exact MSub.nil | refine MSub.keep (by first | rfl | assumption) ?_ | refine MSub.drop ?_ | exact MSub.refl _))
    (env' := [(4, .pointer (some ⟨b4, 0, none⟩)), (6, .pointer (some ⟨b6, 0, none⟩))]) (by repeat (first | exact EnvSub.nil | refine EnvSub.cons rfl (by first | rfl | (congr 1; done) | (exact congrArg (Value.int _) (by omega)) | (simp; done)) ?_)) ?_ ?_ ?_
  · have m1 := (hW.own (b1, _) (by repeat (first | exact List.Mem.head _ | apply List.Mem.tail))).2
    have m2 := (hW.own (b2, _) (by repeat (first | exact List.Mem.head _ | apply List.Mem.tail))).2
    rw [← hxs]
    exact parts_it c len lf caps w W1 b1 b2 hok hA hlen hcl (hW.same.trans (hs.mono fun _ _ => trivial)) (hs.obj m1 trivial) (hs.obj m2 trivial)
  · rintro b (h | rfl | rfl)
    · exact .inl h
    · exact .inr (by simp)
    · exact .inr (by simp)
  · rintro ⟨k, v⟩ hI hk m lp W1 hW1 hDl hol
    simp only at hI hk ⊢
    obtain ⟨s, hs⟩ : ∃ s, xs[k] = s := ⟨_, rfl⟩
    have hd : xs.drop k = s :: xs.drop (k + 1) := by rw [← hs]; exact List.drop_eq_getElem_cons hk
    rw [hd] at hI
    simp only [bg] at hI
    rw [hs]
    repeat (first | refine l_nil ?_ | refine c_region ?_ | refine r_alloc rfl rfl rfl (by first | exact aggL ) (fun _ => ?_) | refine r_store rfl rfl rfl rfl rfl rfl rfl (by repeat (first | exact Upd.head | apply Upd.tail)) (by rfl) ?_ )
    refine x_body hW1 hDl hol (fun n2 W2 r hW2 hr2 ho => ?_)
    by_cases hc : bar ≤ s.bar
    · rw [if_pos hc] at hI
      repeat (first | refine l_val rfl rfl (by first | exact pureEval_ok rfl | exact v_load rfl (by repeat (first | exact List.Mem.head _ | apply List.Mem.tail)) rfl (by rfl) ) ?_ | refine l_nil ?_ | refine c_region ?_ | refine c_seq ?_ | refine x_then ?_ | refine c_dec_t rfl (by first | omega ) ?_ | refine c_block ?_ | refine c_exit ?_ | refine x_then_exit ?_ | refine x_block_other rfl ?_ )
      refine x_leave (k, v) ⟨rfl, ?_⟩ (by repeat (first | exact MSub.nil | refine MSub.keep (by first | rfl | assumption) ?_ | refine MSub.drop ?_ | exact MSub.refl _))
      simp only; rw [← hI, hbg]
    · rw [if_neg hc] at hI
      repeat (first | refine l_val rfl rfl (by first | exact pureEval_ok rfl | exact v_load rfl (by repeat (first | exact List.Mem.head _ | apply List.Mem.tail)) rfl (by rfl) ) ?_ | refine l_nil ?_ | refine c_region ?_ | refine c_seq ?_ | refine x_then ?_ | refine r_store rfl rfl rfl rfl rfl rfl rfl (by repeat (first | exact Upd.head | apply Upd.tail)) (by rfl) ?_ | refine c_dec_f rfl (by first | omega ) ?_ | refine c_block ?_ | refine c_skip ?_ | refine x_block ?_ )
      exact x_next (k + 1, s.e) rfl hI (by repeat (first | exact MSub.nil | refine MSub.keep (by first | rfl | assumption) ?_ | refine MSub.drop ?_ | exact MSub.refl _))
  · rintro B ⟨k, v⟩ hk hI
    simp only at hk hI
    subst hk
    rw [List.drop_length] at hI
    have hv : v = R := by rw [← hbg, hI]; rfl
    subst hv
    repeat (first | refine l_val rfl rfl (by first | exact v_load rfl (by repeat (first | exact List.Mem.head _ | apply List.Mem.tail)) rfl (by rfl) ) ?_ | refine l_nil ?_ | refine c_region ?_ | refine c_seq ?_ | refine x_then ?_ | refine r_store rfl rfl rfl rfl rfl rfl rfl (by repeat (first | exact Upd.head | apply Upd.tail)) (by rfl) ?_ | refine c_ret ?_ | refine x_block ?_ )
    exact x_rets (Ds := [B]) rfl rfl (by repeat (first | exact Split.nil | exact Split.all | apply Split.mark | apply Split.keep)) rfl (by repeat (first | exact Res.nil | (apply Res.tmp; rfl) | (apply Res.cell; rfl; exact (by repeat (first | exact List.Mem.head _ | apply List.Mem.tail)); rfl; rfl))) rfl (fun W hW => ⟨rfl, hW.below⟩)
  · rintro B _ ⟨k, v⟩ ⟨rfl, hv⟩
    simp only at hv
    subst hv
    repeat (first | refine l_val rfl rfl (by first | exact v_load rfl (by repeat (first | exact List.Mem.head _ | apply List.Mem.tail)) rfl (by rfl) ) ?_ | refine l_nil ?_ | refine c_region ?_ | refine c_seq ?_ | refine x_then ?_ | refine r_store rfl rfl rfl rfl rfl rfl rfl (by repeat (first | exact Upd.head | apply Upd.tail)) (by rfl) ?_ | refine c_ret ?_ | refine c_exit ?_ | refine x_block_same ?_ )
    exact x_rets (Ds := [B]) rfl rfl (by repeat (first | exact Split.nil | exact Split.all | apply Split.mark | apply Split.keep)) rfl (by repeat (first | exact Res.nil | (apply Res.tmp; rfl) | (apply Res.cell; rfl; exact (by repeat (first | exact List.Mem.head _ | apply List.Mem.tail)); rfl; rfl))) rfl (fun W hW => ⟨rfl, hW.below⟩)
end R13
end Go.Proofs

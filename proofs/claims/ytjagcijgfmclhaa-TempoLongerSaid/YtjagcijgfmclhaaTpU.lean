/- Clocks: Length and Locate, in the program. -/
import Derived.Test.YtjagcijgfmclhaaTpR
set_option linter.unusedSectionVars false
set_option linter.unusedVariables false
set_option linter.unusedSimpArgs false
namespace Go.Proofs
open Go.RowKit Go.Kin Go.Kin.Tm
namespace R13
section
variable {P : Program} {N : Nat} {c : Cx} {Q : Exit → Act → World → Prop} {env : List (Nat × Value)} {mem mem' : List (Nat × Obj)} {x : Code}
theorem c_perm (hp : mem.Perm mem') (k : RunC P N c x Q env mem') : RunC P N c x Q env mem := .mk fun a W ha hm => k.run a W ha (hm.perm hp)
end
/-- the lengths that are given -/
theorem lens_bd {n : Int} {ts : List Tp} {ps : List Ps} {sp : List Sp} {l : List Int} (h : Ok n ts ps sp) (h2 : lensB ps l = true) (i : Nat) (hi : i < ps.length) : (0 ≤ lenF l i ∧ lenF l i ≤ 1048576) ∧ i < l.length := by
  obtain ⟨e1, e2⟩ := lensB_iff.1 h2
  obtain ⟨p, hp⟩ : ∃ p, ps[i]? = some p := ⟨_, List.getElem?_eq_getElem hi⟩
  obtain ⟨x, hx⟩ : ∃ x, l[i]? = some x := ⟨_, List.getElem?_eq_getElem (by omega)⟩
  have := ascP_get h.ascP hp
  have h3 := e2 i p x hp hx
  have hl : lenF l i = x := by unfold lenF; rw [List.getD_eq_getElem?_getD, hx]; rfl
  rw [hl]
  exact ⟨by omega, by omega⟩
/-- what Length answers -/
def lnA (c : Clk) (l : List Int) : Int × Int := if lgE c l ≠ 0 then (0, lgE c l) else (Bt (tk c.ts) (pa (lenF l) c.ps 0) c.n.toNat, 0)

set_option maxRecDepth 100000 in
set_option maxHeartbeats 4000000 in
theorem Length_calls (c : Clk) (L : Option Addr) (cap : Nat) (l : List Int) (w : World) (hl : c.Sm) (hl2 : l.length ≤ 5000) (hA : c.In w) (hL : Kin.At w L 1 (l.map inE)) :
    Calls Try.prog 18 ⟨[.agg ⟨c.v⟩, .slice L l.length cap]⟩ w fun e w' => e = .returned (v2 (lnA c l)) ∧ Below w.heap.size w w' := by
  refine fun_enter Try.func18 rfl Try.ntmps18 rfl rfl (satW_nil w) ?_
  repeat (first | refine l_val rfl rfl (by first | exact pureEval_ok rfl | exact v_load rfl (by repeat (first | exact List.Mem.head _ | apply List.Mem.tail)) rfl (by rfl) ) ?_ | refine l_nil ?_ | refine c_region ?_ | refine c_seq ?_ | refine x_then ?_ | refine r_box rfl rfl rfl rfl (fun _ => ?_) )
  rename_i b2 b3
  refine r_call rfl rfl rfl (fun W hW => lengths_calls c L cap l W hl hl2 (hA.sat hW) (hL.sat hW)) ?_
  by_cases h0 : lgE c l = 0
  · obtain ⟨hok, hlen⟩ := lgE_0 h0
    have hv : lnA c l = (Bt (tk c.ts) (pa (lenF l) c.ps 0) c.n.toNat, 0) := by unfold lnA; rw [if_neg (by simp [h0])]
    have hn1 := hok.n1
    rw [h0]
    repeat (first | refine l_val rfl rfl (by first | exact pureEval_ok rfl | exact v_load rfl (by repeat (first | exact List.Mem.head _ | apply List.Mem.tail)) rfl (by rfl) ) ?_ | refine l_nil ?_ | refine c_region ?_ | refine c_seq ?_ | refine x_then ?_ | refine c_false rfl ?_ | refine c_skip ?_ )
    refine r_call rfl rfl rfl (fun W hW => begin_calls c c.n (lenF l) 40 [.pointer (some ⟨b3, 0, none⟩)] W hok (hA.sat hW) (fun i hi => (lens_bd hok hlen i hi).1) (fun i hi W2 hW2 =>
        len_calls L cap b3 i l W2 ((hW2.block _ (hW.lt (p := (b3, _)) (by repeat (first | exact List.Mem.head _ | apply List.Mem.tail)))).trans (hW.own (b3, _) (by repeat (first | exact List.Mem.head _ | apply List.Mem.tail))).2) (lens_bd hok hlen i hi).2 hl2 ((hL.sat hW).later hW2)) (by omega) (Int.le_refl _)) ?_
    repeat (first | refine l_val rfl rfl (by first | exact pureEval_ok rfl ) ?_ | refine l_nil ?_ | refine x_then ?_ | refine c_ret ?_ )
    exact x_ret rfl rfl (by repeat (first | exact Res.nil | (apply Res.tmp; rfl) | (apply Res.cell; rfl; exact (by repeat (first | exact List.Mem.head _ | apply List.Mem.tail)); rfl; rfl))) rfl (fun W hW => ⟨by rw [hv]; rfl, hW.below⟩)
  · have hv : lnA c l = (0, lgE c l) := if_pos h0
    repeat (first | refine l_val rfl rfl (by first | exact pureEval_ok rfl ) ?_ | refine l_nil ?_ | refine c_region ?_ | refine c_seq ?_ | refine x_then ?_ | refine c_dec_t rfl (by first | omega ) ?_ | refine c_ret ?_ | refine x_then_ret ?_ )
    exact x_ret rfl rfl (by repeat (first | exact Res.nil | (apply Res.tmp; rfl) | (apply Res.cell; rfl; exact (by repeat (first | exact List.Mem.head _ | apply List.Mem.tail)); rfl; rfl))) rfl (fun W hW => ⟨by rw [hv]; rfl, hW.below⟩)

/-- what Locate answers -/
def lcA (c : Clk) (l : List Int) (t : Int) : (Int × Int × Bool) × Int :=
  if lgE c l ≠ 0 then ((0, 0, false), lgE c l) else match locA (tk c.ts) (pa (lenF l) c.ps 0) c.n.toNat t with
    | some r => (r, 0)
    | none => ((0, 0, false), 1)
def v4 (p : (Int × Int × Bool) × Int) : Value := .tuple ⟨[.int .i64 p.1.1, .int .i64 p.1.2.1, .bool p.1.2.2, .int .i64 p.2]⟩
theorem lcA_no {c : Clk} {l : List Int} {t : Int} (h : lgE c l ≠ 0) : lcA c l t = ((0, 0, false), lgE c l) := if_pos h
theorem lcA_some {c : Clk} {l : List Int} {t : Int} {r : Int × Int × Bool} (h : lgE c l = 0) (h2 : locA (tk c.ts) (pa (lenF l) c.ps 0) c.n.toNat t = some r) : lcA c l t = (r, 0) := by unfold lcA; rw [if_neg (by simp [h]), h2]
theorem lcA_none {c : Clk} {l : List Int} {t : Int} (h : lgE c l = 0) (h2 : locA (tk c.ts) (pa (lenF l) c.ps 0) c.n.toNat t = none) : lcA c l t = ((0, 0, false), 1) := by unfold lcA; rw [if_neg (by simp [h]), h2]
theorem pf_b {tk : Int → Int} {ps : List Ps} {len : Nat → Int} {n : Int} (ht : ∀ k, 0 ≤ k → k < n → 1 ≤ tk k ∧ tk k ≤ 65536) (hl : ∀ i, i < ps.length → 0 ≤ len i ∧ len i ≤ 1048576) : ∀ (f k : Nat) (at' : Int) (i : Nat), (k : Int) + f ≤ n → i ≤ k → 0 ≤ at' → at' ≤ 65536 * k + 1048576 * i →
    ∀ x ∈ pf tk ps len f k at' i, 0 ≤ x.b ∧ x.b ≤ 1114112 * n
  | 0, _, _, _, _, _, _, _, x, hx => by cases hx
  | f + 1, k, at', i, h1, h2, h3, h4, x, hx => by
    have hk := ht k (by omega) (by omega)
    unfold pf at hx
    rcases List.mem_cons.1 hx with rfl | hx
    · simp only; omega
    · cases hh : hasP ps i k with
      | true =>
        rw [hh, if_pos rfl] at hx
        have hil : i < ps.length := by
          unfold hasP at hh
          cases hp : ps[i]? with
          | none => rw [hp] at hh; cases hh
          | some p => exact (List.getElem?_eq_some_iff.1 hp).1
        have hli := hl i hil
        rcases List.mem_cons.1 hx with rfl | hx
        · simp only; omega
        · exact pf_b ht hl f (k + 1) _ (i + 1) (by omega) (by omega) (by omega) (by omega) x hx
      | false =>
        rw [hh, if_neg (by decide)] at hx
        exact pf_b ht hl f (k + 1) _ i (by omega) (by omega) (by omega) (by omega) x hx
theorem loc_drop {xs : List Pt} {t : Int} : ∀ (k : Nat), (∀ i x, i < k → xs[i]? = some x → ¬ t < x.e) → loc xs t = loc (xs.drop k) t
  | 0, _ => rfl
  | k + 1, h => by
    rw [loc_drop k (fun i x hi hx => h i x (by omega) hx)]
    cases hk : xs[k]? with
    | none =>
      have := List.getElem?_eq_none_iff.1 hk
      rw [List.drop_eq_nil_of_le this, List.drop_eq_nil_of_le (by omega)]
    | some x =>
      obtain ⟨h1, h2⟩ := List.getElem?_eq_some_iff.1 hk
      rw [List.drop_eq_getElem_cons h1, h2]
      show (if t < x.e then _ else _) = _
      rw [if_neg (h k x (by omega) hk)]
set_option maxRecDepth 100000 in
set_option maxHeartbeats 4000000 in
theorem Locate_calls (c : Clk) (L : Option Addr) (cap : Nat) (l : List Int) (t : Int) (w : World) (hl : c.Sm) (hl2 : l.length ≤ 5000) (hA : c.In w) (hL : Kin.At w L 1 (l.map inE)) (ht : t ≤ 9223372036854775807) :
    Calls Try.prog 20 ⟨[.agg ⟨c.v⟩, .slice L l.length cap, .int .i64 t]⟩ w fun e w' => e = .returned (v4 (lcA c l t)) ∧ Below w.heap.size w w' := by
  refine fun_enter Try.func20 rfl Try.ntmps20 rfl rfl (satW_nil w) ?_
  repeat (first | refine l_val rfl rfl (by first | exact v_load rfl (by repeat (first | exact List.Mem.head _ | apply List.Mem.tail)) rfl (by rfl) ) ?_ | refine l_nil ?_ | refine c_region ?_ | refine c_seq ?_ | refine x_then ?_ | refine r_box rfl rfl rfl rfl (fun _ => ?_) | refine r_alloc rfl rfl rfl (by first | exact aggL ) (fun _ => ?_) )
  rename_i b3 b4 b5 b6 b7 b8 b9
  refine r_call rfl rfl rfl (fun W hW => lengths_calls c L cap l W hl hl2 (hA.sat hW) (hL.sat hW)) ?_
  by_cases h0 : lgE c l = 0
  rotate_left
  · have hv := lcA_no (t := t) h0
    repeat ((fail_if_success refine c_probe (id := 3) ?_); (fail_if_success refine c_probe1 (id := 3) ?_); first | refine l_val rfl rfl (by first | exact pureEval_ok rfl | exact v_load rfl (by repeat (first | exact List.Mem.head _ | apply List.Mem.tail)) rfl (by rfl) ) ?_ | refine l_nil ?_ | refine c_region ?_ | refine c_seq ?_ | refine x_then ?_ | refine r_store rfl rfl rfl rfl rfl rfl rfl (by repeat (first | exact Upd.head | apply Upd.tail)) (by rfl) ?_ | refine c_dec_t rfl (by first | omega ) ?_ )
    refine c_seq ?_
    refine c_gen [(1,3),(2,2),(3,1),(4,0)] [(1,3,0,1),(2,2,0,1),(3,1,0,1),(4,0,0,1)] [(0,0)] rfl (by decide +kernel) (by repeat' (first | exact trivial | apply And.intro | exact Or.inl (Nat.ne_of_beq_eq_false rfl) | (right; simp only; omega))) ?_; repeat (first | refine x_then ?_ | refine c_ret ?_ | refine x_then_ret ?_ | refine g_val rfl rfl rfl (by first | exact v_load rfl (by repeat (first | exact List.Mem.head _ | apply List.Mem.tail)) rfl (by rfl) ) ?_ | refine g_store rfl rfl rfl rfl rfl rfl rfl rfl (by first | rfl ) rfl rfl (by first | (simp; done) ) (by first | exact splice_lit (by rfl) ) rfl ?_ | refine g_nil ?_ )
    exact x_ret rfl rfl (by repeat (first | exact Res.nil | (apply Res.tmp; rfl) | (apply Res.cell; rfl; exact (by repeat (first | exact List.Mem.head _ | apply List.Mem.tail)); rfl; rfl))) rfl (fun W hW => ⟨by rw [hv]; rfl, hW.below⟩)
  obtain ⟨hok, hlen⟩ := lgE_0 h0
  have hn1 := hok.n1
  by_cases h1 : 0 ≤ t
  rotate_left
  · have hv := lcA_none (t := t) h0 (by unfold locA; rw [if_neg h1])
    rw [h0]
    repeat (first | refine l_val rfl rfl (by first | exact pureEval_ok rfl | exact v_load rfl (by repeat (first | exact List.Mem.head _ | apply List.Mem.tail)) rfl (by rfl) ) ?_ | refine l_nil ?_ | refine c_region ?_ | refine c_seq ?_ | refine x_then ?_ | refine r_store rfl rfl rfl rfl rfl rfl rfl (by repeat (first | exact Upd.head | apply Upd.tail)) (by rfl) ?_ | refine c_false rfl ?_ | refine c_dec_f rfl (by first | omega ) ?_ | refine c_skip ?_ | refine c_ret ?_ )
    exact x_ret rfl rfl (by repeat (first | exact Res.nil | (apply Res.tmp; rfl) | (apply Res.cell; rfl; exact (by repeat (first | exact List.Mem.head _ | apply List.Mem.tail)); rfl; rfl))) rfl (fun W hW => ⟨by rw [hv]; rfl, hW.below⟩)
  have hlp := loc_pf (tk := tk c.ts) (len := lenF l) hok.ascP t c.n.toNat 0 0 0 (at_zero hok.ascP)
  have hla : locA (tk c.ts) (pa (lenF l) c.ps 0) c.n.toNat t = loc (pf (tk c.ts) c.ps (lenF l) c.n.toNat 0 0 0) t := by
    unfold locA; rw [if_pos h1]; exact hlp.symm
  have hpb := pf_b (tk := tk c.ts) (ps := c.ps) (len := lenF l) hok.bars (fun i hi => (lens_bd hok hlen i hi).1) c.n.toNat 0 0 0 (by omega) (by omega) (by omega) (by omega)
  obtain ⟨xs, hxs⟩ : ∃ xs, pf (tk c.ts) c.ps (lenF l) c.n.toNat 0 0 0 = xs := ⟨_, rfl⟩
  have hpb' : ∀ x ∈ xs, 0 ≤ x.b ∧ x.b ≤ 1114112 * c.n := by rw [← hxs]; exact hpb
  rw [hxs] at hla
  have hn2 := hok.n2
  clear hpb hlp
  have hR : ∀ r, lcA c l t = r → v4 (lcA c l t) = v4 r := fun r h => by rw [h]
  rw [h0]
  repeat (first | refine l_val rfl rfl (by first | exact pureEval_ok rfl | exact v_load rfl (by repeat (first | exact List.Mem.head _ | apply List.Mem.tail)) rfl (by rfl) ) ?_ | refine l_nil ?_ | refine c_region ?_ | refine c_seq ?_ | refine x_then ?_ | refine r_store rfl rfl rfl rfl rfl rfl rfl (by repeat (first | exact Upd.head | apply Upd.tail)) (by rfl) ?_ | refine c_false rfl ?_ | refine c_dec_t rfl (by first | omega ) ?_ | refine c_skip ?_ )
  refine r_call2 (ι := Nat × Nat) (bk := Prod.fst) (bk2 := Prod.snd) rfl rfl rfl (fun W hW => parts_calls c _ W rfl) (fun q => ?_)
  obtain ⟨b1, b2⟩ := q
  repeat (first | refine l_nil ?_ | refine x_then ?_ | refine c_block ?_ )
  refine c_perm (List.Perm.cons _ (List.Perm.cons _ (List.perm_middle (l₁ := [_, _, _, _, _])))) ?_
  refine c_range ptE xs (fun k => base w k ∨ k = b1 ∨ k = b2 ∨ k = b4) [(b2, .cells ⟨[.func (.func 44) ⟨[]⟩ ⟨[.pointer (some ⟨b4, 0, none⟩)]⟩]⟩ 62 (0, 0)), (b1, .cells ⟨c.v⟩ 26 (0, 0)), (b4, .cells ⟨[.slice L l.length cap]⟩ 38 (0, 0))] (ι := Option Nat × (Int × Int × Bool) × Int) (fun o => o.1.getD 0) (fun o => o.2 = ((0, 0, false), 0) ∧ ∃ k, o.1 = some k ∧ loc xs t = loc (xs.drop k) t)
    (fun o => [(b9, .cells ⟨[.int .i64 o.2.2]⟩ 29 (0, 0)), (b8, .cells ⟨[.bool o.2.1.2.2]⟩ 4 (0, 0)), (b7, .cells ⟨[.int .i64 o.2.1.2.1]⟩ 3 (0, 0)), (b6, .cells ⟨[.int .i64 o.2.1.1]⟩ 3 (0, 0)), (b5, .cells ⟨[.int .i64 t]⟩ 3 (0, 0))])
    (fun c' o => c' = .ret ∧ o.2 = lcA c l t) (some 0, ((0, 0, false), 0)) rfl (fun W W1 hW hs => ?_) ?_ (fun _ _ => rfl) (by decide) rfl ⟨rfl, 0, rfl, rfl⟩ (by repeat (first | exact MSub.nil | refine MSub.keep (by first | rfl | assumption) ?_ | refine MSub.drop ?_ | exact MSub.refl _))
    (env' := [(5, .pointer (some ⟨b5, 0, none⟩)), (6, .pointer (some ⟨b6, 0, none⟩)), (7, .pointer (some ⟨b7, 0, none⟩)), (8, .pointer (some ⟨b8, 0, none⟩)), (9, .pointer (some ⟨b9, 0, none⟩))]) (by repeat (first | exact EnvSub.nil | refine EnvSub.cons rfl (by first | rfl | (congr 1; done) | (exact congrArg (Value.int _) (by omega)) | (simp; done)) ?_)) ?_ ?_ ?_
  · have m1 := (hW.own (b1, _) (by repeat (first | exact List.Mem.head _ | apply List.Mem.tail))).2
    have m2 := (hW.own (b2, _) (by repeat (first | exact List.Mem.head _ | apply List.Mem.tail))).2
    have m4 := (hW.own (b4, _) (by repeat (first | exact List.Mem.head _ | apply List.Mem.tail))).2
    have l4 := hW.lt (p := (b4, _)) (by repeat (first | exact List.Mem.head _ | apply List.Mem.tail))
    have n1 := hs.obj m1 trivial
    have n2 := hs.obj m2 trivial
    have n4 := hs.obj m4 trivial
    have hS := hW.same.trans (hs.mono fun _ _ => trivial)
    rw [← hxs]
    refine parts_itR (fun k => base w k ∨ k = b1 ∨ k = b2 ∨ k = b4) c (lenF l) 44 [.pointer (some ⟨b4, 0, none⟩)] w W1 b1 b2 (fun k h => .inl h) (.inr (.inl rfl)) (.inr (.inr (.inl rfl))) ?_ hok hA (fun i hi => (lens_bd hok hlen i hi).1) (fun i hi W2 hW2 => ?_) hS n1 n2
    · rintro k (h | rfl | rfl | rfl)
      · have := hS.size; unfold base at h; omega
      · exact lt_of_heap n1
      · exact lt_of_heap n2
      · exact lt_of_heap n4
    · exact len2_calls L cap b4 i l W2 (hW2.obj n4 (.inr (.inr (.inr rfl)))) (lens_bd hok hlen i hi).2 hl2 (hL.later ((hS.trans (hW2.mono fun k hk => .inl hk)).below (Nat.le_refl _) fun _ hk => hk))
  · rintro b (h | rfl | rfl | rfl)
    · exact .inl h
    · exact .inr (by simp)
    · exact .inr (by simp)
    · exact .inr (by simp)
  · rintro ⟨_, _⟩ ⟨rfl, k, rfl, hI⟩ hk m lp W1 hW1 hDl hol
    simp only [Option.getD_some] at hI hk ⊢
    obtain ⟨s, hs⟩ : ∃ s, xs[k] = s := ⟨_, rfl⟩
    have hd : xs.drop k = s :: xs.drop (k + 1) := by rw [← hs]; exact List.drop_eq_getElem_cons hk
    obtain ⟨sb1, sb2⟩ := hpb' s (by rw [← hs]; exact List.getElem_mem hk)
    rw [hd] at hI
    simp only [loc] at hI
    rw [hs]
    repeat (first | refine l_nil ?_ | refine c_region ?_ | refine r_alloc rfl rfl rfl (by first | exact aggL ) (fun _ => ?_) | refine r_store rfl rfl rfl rfl rfl rfl rfl (by repeat (first | exact Upd.head | apply Upd.tail)) (by rfl) ?_ )
    refine x_body hW1 hDl hol (fun n2 W2 r hW2 hr2 ho => ?_)
    by_cases hc : t < s.e
    · rw [if_pos hc] at hI
      have hv := lcA_some h0 (hla.trans hI)
      clear hR hI hla
      repeat ((fail_if_success refine c_probe (id := 8) ?_); (fail_if_success refine c_probe1 (id := 8) ?_); first | refine l_val rfl rfl (by first | exact pureEval_ok rfl | exact v_load rfl (by repeat (first | exact List.Mem.head _ | apply List.Mem.tail)) rfl (by rfl) ) ?_ | refine l_nil ?_ | refine c_region ?_ | refine c_seq ?_ | refine x_then ?_ | refine c_dec_t rfl (by first | omega ) ?_ | refine c_block ?_ )
      refine c_seq ?_
      refine c_gen [(8,4),(9,3),(10,2),(11,1)] [(8,4,0,1),(9,3,0,1),(10,2,0,1),(11,1,0,1)] [] rfl (by decide +kernel) (by repeat' (first | exact trivial | apply And.intro | exact Or.inl (Nat.ne_of_beq_eq_false rfl) | (right; simp only; omega))) ?_; repeat (first | refine x_then ?_ | refine c_ret ?_ | refine x_block_ret ?_ | refine g_val rfl rfl rfl (by first | exact v_sub rfl rfl (by omega) (by omega) | exact pureEval_ok rfl | exact v_load rfl (by repeat (first | exact List.Mem.head _ | apply List.Mem.tail)) rfl (by rfl) ) ?_ | refine g_store rfl rfl rfl rfl rfl rfl rfl rfl (by first | rfl ) rfl rfl (by first | (simp; done) ) (by first | exact splice_lit (by rfl) ) rfl ?_ | refine g_nil ?_ )
      exact x_leave_ret (none, (s.bar, t - s.b, s.play), 0) ⟨rfl, hv.symm⟩ (by repeat (first | exact MSub.nil | refine MSub.keep (by first | rfl | assumption) ?_ | refine MSub.drop ?_ | exact MSub.refl _))
    · rw [if_neg hc] at hI
      repeat (first | refine l_val rfl rfl (by first | exact pureEval_ok rfl | exact v_load rfl (by repeat (first | exact List.Mem.head _ | apply List.Mem.tail)) rfl (by rfl) ) ?_ | refine l_nil ?_ | refine c_region ?_ | refine c_seq ?_ | refine x_then ?_ | refine c_dec_f rfl (by first | omega ) ?_ | refine c_block ?_ | refine c_skip ?_ | refine x_block ?_ )
      exact x_next (some (k + 1), ((0, 0, false), 0)) rfl ⟨rfl, k + 1, rfl, hI⟩ (by repeat (first | exact MSub.nil | refine MSub.keep (by first | rfl | assumption) ?_ | refine MSub.drop ?_ | exact MSub.refl _))
  · rintro B ⟨_, _⟩ hk ⟨rfl, k, rfl, hI⟩
    simp only [Option.getD_some] at hk hI
    subst hk
    rw [List.drop_length] at hI
    have hv := lcA_none h0 (hla.trans hI)
    repeat (first | refine l_nil ?_ | refine c_region ?_ | refine c_seq ?_ | refine x_then ?_ | refine r_store rfl rfl rfl rfl rfl rfl rfl (by repeat (first | exact Upd.head | apply Upd.tail)) (by rfl) ?_ | refine c_ret ?_ | refine x_block ?_ )
    exact x_rets (Ds := [B]) rfl rfl (by repeat (first | exact Split.nil | exact Split.all | apply Split.mark | apply Split.keep)) rfl (by repeat (first | exact Res.nil | (apply Res.tmp; rfl) | (apply Res.cell; rfl; exact (by repeat (first | exact List.Mem.head _ | apply List.Mem.tail)); rfl; rfl))) rfl (fun W hW => ⟨by rw [hv]; rfl, hW.below⟩)
  · rintro B _ ⟨_, _⟩ ⟨rfl, hv⟩
    simp only at hv
    subst hv
    repeat (first | refine c_ret ?_ | refine x_then_ret ?_ | refine x_block_ret ?_ )
    exact x_rets (Ds := [B]) rfl rfl (by repeat (first | exact Split.nil | exact Split.all | apply Split.mark | apply Split.keep)) rfl (by repeat (first | exact Res.nil | (apply Res.tmp; rfl) | (apply Res.cell; rfl; exact (by repeat (first | exact List.Mem.head _ | apply List.Mem.tail)); rfl; rfl))) rfl (fun W hW => ⟨rfl, hW.below⟩)
end R13
end Go.Proofs

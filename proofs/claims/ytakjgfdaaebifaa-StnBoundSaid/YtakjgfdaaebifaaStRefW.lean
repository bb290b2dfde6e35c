/- Refute, walked. -/
import Derived.Test.YtakjgfdaaebifaaStRef
import Derived.Test.YtakjgfdaaebifaaEng11
set_option linter.unusedSectionVars false
set_option linter.unusedVariables false
set_option linter.unusedSimpArgs false
namespace Go.Proofs
open Go.RowKit Go.Kin Go.Kin.St
namespace R22

theorem raw_use {l : List Lk} {k : Nat} {s : RS} (h : (raw l)[k]? = some s) : s.i = k / 2 ∧ s.lower = decide (k % 2 = 1) := by
  have hlen := raw_len l
  have hk : k < (raw l).length := (List.getElem?_eq_some_iff.1 h).1
  have hi : k / 2 < l.length := by omega
  obtain ⟨g1, g2⟩ := raw_get (List.getElem?_eq_getElem hi)
  rcases Nat.mod_two_eq_zero_or_one k with h2 | h2
  · rw [show k = 2 * (k / 2) by omega, g1] at h
    cases h
    exact ⟨rfl, by simp [h2]⟩
  · rw [show k = 2 * (k / 2) + 1 by omega, g2] at h
    cases h
    exact ⟨rfl, by simp [h2]⟩

/-- What Refute answers. -/
def RefQ (n : Int) (l : List Lk) (w : World) (e : Ending) (w' : World) : Prop :=
  ((chk n l ≠ 0 ∨ ear n l ≠ none) ∧ e = .returned (noV (chk n l)) ∧ Below w.heap.size w w') ∨
  (chk n l = 0 ∧ ear n l = none ∧ ∃ (us : List Us) (b cap : Nat), us ≠ [] ∧ us.length ≤ 64 ∧ accepts l us = true ∧ e = .returned (.tuple ⟨[.slice (some ⟨b, 0, none⟩) us.length cap, .bool true, .int .i64 0]⟩) ∧ Below w.heap.size w w' ∧ w.heap.size ≤ b ∧
    ∃ rest, w'.heap[b]? = some (.cells ⟨flat us.length (fun j => usE (us.getD j ⟨0, false⟩)) ++ rest⟩ 56 (0, 0)))

/-- the cycle so far -/
def cySl (k b cap : Nat) : Value := match k with
  | 0 => .slice none 0 0
  | k + 1 => .slice (some ⟨b, 0, none⟩) (k + 1) cap
def cyM (g : Nat → Us) (k b : Nat) (rest : List Value) (m : List (Nat × Obj)) : List (Nat × Obj) := match k with
  | 0 => m
  | k + 1 => (b, .cells ⟨flat (k + 1) (fun j => usE (g j)) ++ rest⟩ 56 (0, 0)) :: m

/-- the cycle, turned round up to `q` -/
def swp (g : Nat → Us) (P q j : Nat) : Us := if j < q ∨ P - 1 - q < j then g (P - 1 - j) else g j
theorem swp_0 {g : Nat → Us} {P : Nat} : flat P (fun j => usE (swp g P 0 j)) = flat P (fun j => usE (g j)) := by
  refine flat_congr fun j hj => ?_
  unfold swp; rw [if_neg (by omega)]
theorem swp_end {g : Nat → Us} {P q k : Nat} (h : q + k + 1 = P) (hk : ¬ q < k) {j : Nat} (hj : j < P) : swp g P q j = g (P - 1 - j) := by
  unfold swp
  split
  · rfl
  · congr 1; omega
theorem swp_next {g : Nat → Us} {P q k : Nat} (h : q + k + 1 = P) (hk : q < k) :
    flat P (fun j => usE (swp g P (q + 1) j)) = flat P (iset (iset (fun j => usE (swp g P q j)) q (usE (swp g P q k))) k (usE (swp g P q q))) := by
  refine flat_congr fun j hj => ?_
  unfold iset swp
  by_cases h1 : j = k
  · rw [if_pos h1, if_pos (by omega), if_neg (by omega)]; congr 2; omega
  · rw [if_neg h1]
    by_cases h2 : j = q
    · rw [if_pos h2, if_pos (by omega), if_neg (by omega)]; congr 2; omega
    · rw [if_neg h2]
      congr 1
      by_cases h3 : j < q ∨ P - 1 - q < j
      · rw [if_pos h3, if_pos (by omega)]
      · rw [if_neg h3, if_neg (by omega)]

set_option maxHeartbeats 4000000 in
theorem Refute_calls (n : Int) (A : Option Addr) (cap : Nat) (l : List Lk) (w : World) (hl : l.length ≤ 1000) (hA : At w A 4 (l.map lkE)) :
    Calls Try.prog 22 ⟨[.agg ⟨netCells n A l.length cap⟩]⟩ w (RefQ n l w) := by
  refine fun_enter Try.func22 rfl Try.ntmps22 rfl rfl (satW_nil w) ?_
  repeat (first | refine l_val rfl rfl (by first | exact pureEval_ok rfl | exact v_load rfl (by repeat (first | exact List.Mem.head _ | apply List.Mem.tail)) rfl (by rfl) ) ?_ | refine l_nil ?_ | refine c_region ?_ | refine c_seq ?_ | refine x_then ?_ | refine r_box rfl rfl rfl rfl (fun _ => ?_) )
  refine r_call rfl rfl rfl (fun W hW => check_calls n A cap l W hl (hA.sat hW)) ?_
  rename_i b1
  by_cases h0 : chk n l = 0
  · obtain ⟨c1, c2, c3, hF⟩ := chk_fine h0
    obtain ⟨N, rfl⟩ : ∃ N : Nat, n = N := ⟨n.toNat, by omega⟩
    obtain ⟨E, hE⟩ : ∃ E, edges l = E := ⟨_, rfl⟩
    have hlenE : E.length = 2 * l.length := by rw [← hE]; exact edges_len l
    have hraw : (raw l).length = E.length := by rw [raw_len, hlenE]
    have hwE := hF.weights
    rw [hE] at hwE
    have hz1 : (flat 64 fun x => usE (useOf ((srSt E 0).by_ x))) = flat 64 fun _ => [Value.int .i64 0, Value.bool false] := by congr 1; funext x; simp [srSt, usE, useOf]
    have hz2 : (ivec 64 fun x => ((srSt E 0).fr x : Int)) = ivec 64 fun _ => 0 := by congr 1
    repeat (first | refine l_val rfl rfl (by first | exact v_add rfl rfl (by omega) (by omega) | exact pureEval_ok rfl | exact v_load rfl (by repeat (first | exact List.Mem.head _ | apply List.Mem.tail)) rfl (by rfl) ) ?_ | refine l_nil ?_ | refine c_region ?_ | refine c_seq ?_ | refine x_then ?_ | refine r_alloc rfl rfl rfl (by first | exact aggL ) (fun _ => ?_) | refine r_store rfl rfl rfl rfl rfl rfl rfl (by repeat (first | exact Upd.head | apply Upd.tail)) (by rfl) ?_ | refine c_dec_f rfl (by first | omega | exact fun h => h rfl ) ?_ | refine c_block ?_ | refine c_skip ?_ )
    rename_i b2 b3 b4 b5
    refine c_loopD (ι := Nat × List Nat × Int) (fun p => p.1 ≤ N + 1 ∧ (p.1 = 0 ∨ ∃ x : Nat, p.2.2 = x ∧ x < N ∧ (p.1 - 1) * E.length < (srSt E (p.1 * E.length)).T x)) (fun p => p.2.1.map Kin.mark) (fun _ => noJ)
      (fun p => [(1, .pointer (some ⟨b1, 0, none⟩)), (2, .slice none 0 0), (5, .pointer (some ⟨b2, 0, none⟩)), (6, .pointer (some ⟨b3, 0, none⟩)), (7, .pointer (some ⟨b4, 0, none⟩)), (8, .pointer (some ⟨b5, 0, none⟩)), (21, .int .i64 (N + 1)), (22, .int .i64 p.1)])
      (fun p => (b5, .cells ⟨[.int .i64 p.2.2]⟩ 3 (0, 0)) :: (b4, .cells ⟨flat 64 fun x => usE (useOf ((srSt E (p.1 * E.length)).by_ x))⟩ 73 (0, 0)) :: (b3, .cells ⟨ivec 64 fun x => ((srSt E (p.1 * E.length)).fr x : Int)⟩ 70 (0, 0)) ::
        (b2, .cells ⟨ivec 64 (srSt E (p.1 * E.length)).d⟩ 70 (0, 0)) :: (b1, .cells ⟨netCells N A l.length cap⟩ 24 (0, 0)) :: p.2.1.map opn)
      (fun p => N + 1 - p.1) (0, [], -1) ⟨by omega, .inl rfl⟩ rfl rfl (by repeat (first | exact EnvSub.nil | refine EnvSub.cons rfl (by first | rfl | (congr 1; done) | (exact congrArg (Value.int _) (by omega)) | (simp; done)) ?_)) (by simp only [Nat.zero_mul]; rw [hz1, hz2]; exact (by repeat (first | exact MSub.nil | refine MSub.keep (by first | rfl | assumption) ?_ | refine MSub.drop ?_ | exact MSub.refl _))) ?_
    rintro ⟨q, Ds, at0⟩ ⟨hq, hat⟩
    simp only at hq hat ⊢
    by_cases hlt : q < N + 1
    · repeat (first | refine l_val rfl rfl (by first | exact pureEval_ok rfl | exact v_load rfl (by repeat (first | exact List.Mem.head _ | apply List.Mem.tail)) rfl (by rfl) ) ?_ | refine l_nil ?_ | refine c_region ?_ | refine c_seq ?_ | refine x_then ?_ | refine r_store rfl rfl rfl rfl rfl rfl rfl (by repeat (first | exact Upd.head | apply Upd.tail)) (by rfl) ?_ | refine c_dec_t rfl (by first | omega ) ?_ | refine c_block ?_ | refine c_skip ?_ )
      refine r_call1 (ι := Nat) (bk := fun b => b) rfl rfl rfl (fun W hW => steps_calls N A l.length cap W) (fun b9 => ?_)
      repeat (first | refine l_nil ?_ | refine x_then ?_ | refine c_block ?_ )
      obtain ⟨S0, hS0⟩ : ∃ S0, srSt E (q * E.length) = S0 := ⟨_, rfl⟩
      rw [hS0]
      refine c_range rsE (raw l) (Rd w b9) [(b9, .cells ⟨netCells N A l.length cap⟩ 24 (0, 0))] (ι := Nat × Int) (fun p => p.1)
        (fun p => p.1 ≤ E.length ∧ ((p.2 = -1 ∧ srSt E (q * E.length + p.1) = S0 ∧ Sol (E.take p.1) S0.d) ∨ ∃ x : Nat, p.2 = x ∧ x < N ∧ q * E.length < (srSt E (q * E.length + p.1)).T x))
        (fun p => (b5, .cells ⟨[.int .i64 p.2]⟩ 3 (0, 0)) :: (b4, .cells ⟨flat 64 fun x => usE (useOf ((srSt E (q * E.length + p.1)).by_ x))⟩ 73 (0, 0)) :: (b3, .cells ⟨ivec 64 fun x => ((srSt E (q * E.length + p.1)).fr x : Int)⟩ 70 (0, 0)) ::
          (b2, .cells ⟨ivec 64 (srSt E (q * E.length + p.1)).d⟩ 70 (0, 0)) :: (b1, .cells ⟨netCells N A l.length cap⟩ 24 (0, 0)) :: Ds.map opn)
        (fun _ _ => False) (0, -1) rfl (fun W W1 hW hs => it_of hl hA hF c2 hW (by repeat (first | exact List.Mem.head _ | apply List.Mem.tail)) hs) (fun b hb => hb.imp id fun e => by simp [e]) (fun _ _ => rfl) (by decide) rfl ⟨Nat.zero_le _, .inl ⟨rfl, by rw [Nat.add_zero]; exact hS0, fun e he => by cases he⟩⟩ (by simp only [Nat.add_zero]; rw [hS0]; exact (by repeat (first | exact MSub.nil | refine MSub.keep (by first | rfl | assumption) ?_ | refine MSub.drop ?_ | exact MSub.refl _)))
        (env' := [(5, .pointer (some ⟨b2, 0, none⟩)), (6, .pointer (some ⟨b3, 0, none⟩)), (7, .pointer (some ⟨b4, 0, none⟩)), (8, .pointer (some ⟨b5, 0, none⟩))]) (by repeat (first | exact EnvSub.nil | refine EnvSub.cons rfl (by first | rfl | (congr 1; done) | (exact congrArg (Value.int _) (by omega)) | (simp; done)) ?_)) ?_ ?_ ?_
      · rintro ⟨k, at1⟩ ⟨_, hI⟩ hk m lp W1 hW1 hDl hol
        simp only at hk hI hW1 hol ⊢
        obtain ⟨s, hs⟩ : ∃ s, (raw l)[k] = s := ⟨_, rfl⟩
        have hs2 : (raw l)[k]? = some s := by rw [List.getElem?_eq_getElem hk, hs]
        rw [hs]
        have hf := raw_fine hF hs2
        obtain ⟨u1, u2⟩ := raw_use hs2
        have hek : E[k]? = some (rsEd s) := by rw [← hE]; exact edges_get hs2
        have hnx := sr_next (r := q) hek
        have hwu := sr_within (by omega) hwE (q * E.length + k)
        obtain ⟨S, hS⟩ : ∃ S, srSt E (q * E.length + k) = S := ⟨_, rfl⟩
        rw [hS] at hnx hwu hI hW1 hol ⊢
        have hw3 := hwu s.a.toNat
        have hw4 := hwu s.b.toNat
        have hm : q * E.length + k ≤ 40000 := by
          have : q * E.length ≤ 64 * 512 := Nat.mul_le_mul (by omega) (by omega)
          omega
        repeat (first | refine l_nil ?_ | refine c_region ?_ | refine c_seq ?_ | refine x_then ?_ | refine r_alloc rfl rfl rfl (by first | exact aggL ) (fun _ => ?_) | refine r_store rfl rfl rfl rfl rfl rfl rfl (by repeat (first | exact Upd.head | apply Upd.tail)) (by rfl) ?_ )
        refine x_body hW1 hDl hol (fun n2 W2 r hW2 hr2 ho => ?_)
        by_cases hlt2 : S.d s.a.toNat + s.w < S.d s.b.toNat
        · have hst : srSt E (q * E.length + (k + 1)) = ⟨upd S.d s.b.toNat (S.d s.a.toNat + s.w), upd S.fr s.b.toNat s.a.toNat, upd S.by_ s.b.toNat k, upd S.T s.b.toNat (q * E.length + k + 1)⟩ := by
            refine hnx.trans ?_
            unfold Sr.step
            exact if_pos hlt2
          repeat (first | refine c_seq ?_ | refine x_then ?_ | refine c_dec_t rfl (by first | omega ) ?_ | refine c_block ?_ | refine c_reads rfl (by decide +kernel) ?_ | refine q_val rfl rfl (by first | exact v_add rfl rfl (by omega) (by omega) | exact pureEval_ok rfl | exact v_load rfl (by repeat (first | exact List.Mem.head _ | apply List.Mem.tail)) rfl (by rfl) | exact v_indexA rfl rfl rfl rfl (by omega) (by omega) (by with_reducible first | exact idx5 _  ) | exact v_load_at rfl (by repeat (first | exact List.Mem.head _ | apply List.Mem.tail)) rfl rfl (by first | exact ivec_get (by omega) ) ) ?_ | refine q_nil ?_ )
          refine c_gen [(19,5),(21,4),(23,3),(24,2)] [(19,5,s.b.toNat,1),(21,4,s.b.toNat,1),(23,3,s.b.toNat*2,2),(24,2,0,1)] [(9,5)] rfl (by decide +kernel) (by repeat' (first | exact trivial | apply And.intro | exact Or.inl (Nat.ne_of_beq_eq_false rfl) | (right; simp only; omega))) ?_; repeat (first | refine x_block ?_ | refine g_val rfl rfl rfl (by first | exact v_add rfl rfl (by omega) (by omega) | exact pureEval_ok rfl | exact v_load rfl (by repeat (first | exact List.Mem.head _ | apply List.Mem.tail)) rfl (by rfl) | exact v_indexA rfl rfl rfl rfl (by omega) (by omega) (by with_reducible first | exact idx5 _  | exact idx7 _ _  ) | exact v_load_at rfl (by repeat (first | exact List.Mem.head _ | apply List.Mem.tail)) rfl rfl (by first | exact ivec_get (by omega) ) ) ?_ | refine g_store rfl rfl rfl rfl rfl rfl rfl rfl (by first | rfl ) rfl rfl (by first | (rw [ivec_length]; omega) | exact flat_fits (by first | exact fun _ => rfl ) (by omega) | (simp; done) ) (by first | exact splice_one (by first | (rw [ivec_length]; omega) ) (by first | exact ivec_set ) | exact splice_flat (by first | exact fun _ => rfl ) (by omega) rfl | exact splice_lit (by rfl) ) rfl ?_ | refine g_nil ?_ )
          refine x_next (k + 1, s.b) rfl ⟨by simp only; omega, .inr ⟨s.b.toNat, by simp only; omega, by omega, ?_⟩⟩ ?_
          · simp only [hst, upd_self]; omega
          · simp only [hst]
            have e1 : (fun x => usE (useOf (upd S.by_ s.b.toNat k x))) = iset (fun x => usE (useOf (S.by_ x))) s.b.toNat [.int .i64 s.i, .bool s.lower] := by
              funext x
              simp only [upd, iset]
              split
              · rw [u1, u2]; rfl
              · rfl
            have e2 : (fun x => ((upd S.fr s.b.toNat s.a.toNat x : Nat) : Int)) = iset (fun x => (S.fr x : Int)) s.b.toNat s.a := by
              funext x
              simp only [upd, iset]
              split
              · omega
              · rfl
            rw [e1, e2]
            exact (by repeat (first | exact MSub.nil | refine MSub.keep (by first | rfl | assumption) ?_ | refine MSub.drop ?_ | exact MSub.refl _))
        · have hst : srSt E (q * E.length + (k + 1)) = S := by
            refine hnx.trans ?_
            unfold Sr.step
            exact if_neg hlt2
          repeat (first | refine c_seq ?_ | refine x_then ?_ | refine c_dec_f rfl (by first | omega ) ?_ | refine c_block ?_ | refine c_skip ?_ | refine x_block ?_ | refine c_reads rfl (by decide +kernel) ?_ | refine q_val rfl rfl (by first | exact v_add rfl rfl (by omega) (by omega) | exact pureEval_ok rfl | exact v_load rfl (by repeat (first | exact List.Mem.head _ | apply List.Mem.tail)) rfl (by rfl) | exact v_indexA rfl rfl rfl rfl (by omega) (by omega) (by with_reducible first | exact idx5 _  ) | exact v_load_at rfl (by repeat (first | exact List.Mem.head _ | apply List.Mem.tail)) rfl rfl (by first | exact ivec_get (by omega) ) ) ?_ | refine q_nil ?_ )
          refine x_next (k + 1, at1) rfl ⟨by simp only; omega, ?_⟩ ?_
          · simp only [hst]
            rcases hI with ⟨g1, g2, g3⟩ | hI
            · refine .inl ⟨g1, g2, ?_⟩
              intro e he
              rw [List.take_add_one, hek] at he
              rcases List.mem_append.1 he with h | h
              · exact g3 e h
              · simp only [Option.toList_some, List.mem_singleton] at h
                rw [h, ← g2]; simp only [rsEd]; omega
            · exact .inr hI
          · simp only [hst]
            exact (by repeat (first | exact MSub.nil | refine MSub.keep (by first | rfl | assumption) ?_ | refine MSub.drop ?_ | exact MSub.refl _))
      · rintro B ⟨k, at1⟩ hk ⟨_, hI⟩
        simp only at hk hI ⊢
        rw [hk, hraw] at hI
        rw [hk, hraw]
        have hq1 : q * E.length + E.length = (q + 1) * E.length := by rw [Nat.succ_mul]
        rw [hq1] at hI ⊢
        rcases hI with ⟨rfl, g2, g3⟩ | ⟨x, rfl, g2, g3⟩
        · rw [List.take_length, ← hE] at g3
          have hsome : ear N l ≠ none := fun h => ear_none h h0 _ g3
          repeat (first | refine l_val rfl rfl (by first | exact pureEval_ok rfl | exact v_load rfl (by repeat (first | exact List.Mem.head _ | apply List.Mem.tail)) rfl (by rfl) ) ?_ | refine l_nil ?_ | refine c_region ?_ | refine c_seq ?_ | refine x_then ?_ | refine c_true rfl ?_ | refine c_ret ?_ | refine x_then_ret ?_ | refine x_block ?_ | refine x_block_ret ?_ )
          refine x_rets (Ds := B :: Ds) rfl rfl (by repeat (first | exact Split.nil | exact Split.all | apply Split.mark | apply Split.keep)) rfl (by repeat (first | exact Res.nil | (apply Res.tmp; rfl) | (apply Res.cell; rfl; exact (by repeat (first | exact List.Mem.head _ | apply List.Mem.tail)); rfl; rfl))) rfl (fun W hW => .inl ⟨.inr hsome, by rw [h0]; rfl, hW.below⟩)
        · repeat (first | refine l_val rfl rfl (by first | exact v_add rfl rfl (by omega) (by omega) | exact pureEval_ok rfl | exact v_load rfl (by repeat (first | exact List.Mem.head _ | apply List.Mem.tail)) rfl (by rfl) ) ?_ | refine l_nil ?_ | refine c_region ?_ | refine c_seq ?_ | refine x_then ?_ | refine c_false rfl ?_ | refine c_skip ?_ | refine x_block ?_ )
          refine x_perm (List.perm_middle (l₁ := [_, _, _, _, _, _])).symm (x_backD (q + 1, B :: Ds, (x : Int)) ⟨by simp only; omega, .inr ⟨x, rfl, g2, g3⟩⟩ (by simp only; omega) rfl rfl (by repeat (first | exact EnvSub.nil | refine EnvSub.cons rfl (by first | rfl | (congr 1; done) | (exact congrArg (Value.int _) (by omega)) | (simp; done)) ?_)) (by repeat (first | exact MSub.nil | refine MSub.keep (by first | rfl | assumption) ?_ | refine MSub.drop ?_ | exact MSub.refl _)))
      · intro B c i h
        exact h.elim
    · have hqN : q = N + 1 := by omega
      subst hqN
      obtain ⟨x, rfl, hxN, hxT⟩ : ∃ x : Nat, at0 = x ∧ x < N ∧ N * E.length < (srSt E ((N + 1) * E.length)).T x := by
        rcases hat with h | ⟨x, h1, h2, h3⟩
        · omega
        · exact ⟨x, h1, h2, by simpa using h3⟩
      have hE0 : 0 < E.length := by
        rcases Nat.eq_zero_or_pos E.length with h | h
        · rw [h] at hxT
          have : (srSt E 0).T x = 0 := rfl
          simp only [Nat.mul_zero, this] at hxT; omega
        · exact h
      have hInv := sr_inv (by rw [← hE]; exact hF.loopless) hE0 ((N + 1) * E.length)
      have hIn : In N E := by rw [← hE]; simpa using hF.inE
      have hgood := fun P hP hc => refute_good (l := l) (n := N) (m := (N + 1) * E.length) (x := x) (P := P) hF (by rw [hE]; exact hE0) (by rw [hE]; exact hxT) hP (by rw [hE]; exact hc)
      obtain ⟨hcyc, _⟩ := on_cycle hInv hIn hxT
      have hfr := sr_from (by omega) hIn ((N + 1) * E.length)
      rw [hE] at hgood
      obtain ⟨S, hS⟩ : ∃ S, srSt E ((N + 1) * E.length) = S := ⟨_, rfl⟩
      rw [hS] at hgood hcyc hfr ⊢
      clear hInv hxT hat
      repeat (first | refine l_val rfl rfl (by first | exact pureEval_ok rfl | exact v_load rfl (by repeat (first | exact List.Mem.head _ | apply List.Mem.tail)) rfl (by rfl) ) ?_ | refine l_nil ?_ | refine c_region ?_ | refine c_seq ?_ | refine x_then ?_ | refine c_dec_f rfl (by first | omega ) ?_ | refine c_block ?_ | refine c_exit ?_ | refine x_then_exit ?_ | refine x_block_same ?_ )
      refine c_loop (ι := Nat) (fun k => k ≤ N) (fun k => [(2, .slice none 0 0), (6, .pointer (some ⟨b3, 0, none⟩)), (7, .pointer (some ⟨b4, 0, none⟩)), (8, .pointer (some ⟨b5, 0, none⟩)), (65, .int .i64 N), (66, .int .i64 k)])
        (fun k => (b5, .cells ⟨[.int .i64 ((iter S.fr k x : Nat) : Int)]⟩ 3 (0, 0)) :: (b4, .cells ⟨flat 64 fun x => usE (useOf (S.by_ x))⟩ 73 (0, 0)) :: (b3, .cells ⟨ivec 64 fun x => (S.fr x : Int)⟩ 70 (0, 0)) :: Ds.map opn)
        (fun k => N - k) 0 (by omega) (by repeat (first | exact EnvSub.nil | refine EnvSub.cons rfl (by first | rfl | (congr 1; done) | (exact congrArg (Value.int _) (by omega)) | (simp; done)) ?_)) (by repeat (first | exact MSub.nil | refine MSub.keep (by first | rfl | assumption) ?_ | refine MSub.drop ?_ | exact MSub.refl _)) ?_
      intro k hk
      have hit := iter_lt hfr hxN k
      by_cases hlt : k < N
      · repeat (first | refine l_val rfl rfl (by first | exact v_add rfl rfl (by omega) (by omega) | exact pureEval_ok rfl | exact v_load rfl (by repeat (first | exact List.Mem.head _ | apply List.Mem.tail)) rfl (by rfl) | exact v_indexA rfl rfl rfl rfl (by omega) (by omega) (by with_reducible first | exact idx1 _  ) | exact v_load_at rfl (by repeat (first | exact List.Mem.head _ | apply List.Mem.tail)) rfl rfl (by first | exact ivec_get (by omega) ) ) ?_ | refine l_nil ?_ | refine c_region ?_ | refine c_seq ?_ | refine x_then ?_ | refine r_store rfl rfl rfl rfl rfl rfl rfl (by repeat (first | exact Upd.head | apply Upd.tail)) (by rfl) ?_ | refine c_dec_t rfl (by first | omega ) ?_ | refine c_block ?_ | refine c_skip ?_ | refine x_block ?_ )
        exact x_back (k + 1) hlt (by omega) (by repeat (first | exact EnvSub.nil | refine EnvSub.cons rfl (by first | rfl | (congr 1; done) | (exact congrArg (Value.int _) (by omega)) | (simp; done)) ?_)) (by repeat (first | exact MSub.nil | refine MSub.keep (by first | rfl | assumption) ?_ | refine MSub.drop ?_ | exact MSub.refl _))
      · have hkN : k = N := by omega
        subst hkN
        obtain ⟨c, hc⟩ : ∃ c, iter S.fr k x = c := ⟨_, rfl⟩
        rw [hc] at hgood hcyc hit ⊢
        obtain ⟨P, hP0, hPN, hPc, hPm⟩ := first_back hcyc
        obtain ⟨g, hg⟩ : ∃ g : Nat → Us, (fun j => useOf (S.by_ (iter S.fr j c))) = g := ⟨_, rfl⟩
        repeat ((fail_if_success refine c_probe (id := 22) ?_); (fail_if_success refine c_probe1 (id := 22) ?_); first | refine l_val rfl rfl (by first | exact pureEval_ok rfl ) ?_ | refine l_nil ?_ | refine c_region ?_ | refine c_seq ?_ | refine x_then ?_ | refine c_dec_f rfl (by first | omega ) ?_ | refine c_exit ?_ | refine x_then_exit ?_ | refine x_block_same ?_ )
        refine c_joinI (ι := Nat × Nat × List Value) (fun p => Grow 2 P (flat P (fun j => usE (g j))) p.2.1 p.2.2) (fun p => [(2, .slice (some ⟨p.1, 0, none⟩) P p.2.1)])
          (fun p => (p.1, .cells ⟨flat P (fun j => usE (g j)) ++ p.2.2⟩ 56 (0, 0)) :: Ds.map opn) ?_ ?_
        · repeat (first | refine l_val rfl rfl (by first | exact pureEval_ok rfl | exact v_load rfl (by repeat (first | exact List.Mem.head _ | apply List.Mem.tail)) rfl (by rfl) ) ?_ | refine l_nil ?_ | refine c_region ?_ | refine c_seq ?_ | refine x_then ?_ | refine c_block ?_ )
          refine c_loop (ι := Nat × Nat × Nat × List Value) (fun p => p.1 < P ∧ (p.1 = 0 ∨ Grow 2 p.1 (flat p.1 (fun j => usE (g j))) p.2.2.1 p.2.2.2))
            (fun p => [(2, cySl p.1 p.2.1 p.2.2.1), (6, .pointer (some ⟨b3, 0, none⟩)), (7, .pointer (some ⟨b4, 0, none⟩)), (8, .pointer (some ⟨b5, 0, none⟩)), (11, .int .i64 ((iter S.fr p.1 c : Nat) : Int))])
            (fun p => cyM g p.1 p.2.1 p.2.2.2 ((b5, .cells ⟨[.int .i64 (c : Int)]⟩ 3 (0, 0)) :: (b4, .cells ⟨flat 64 fun x => usE (useOf (S.by_ x))⟩ 73 (0, 0)) :: (b3, .cells ⟨ivec 64 fun x => (S.fr x : Int)⟩ 70 (0, 0)) :: Ds.map opn))
            (fun p => P - p.1) (0, 0, 0, []) ⟨hP0, .inl rfl⟩ (by repeat (first | exact EnvSub.nil | refine EnvSub.cons rfl (by first | rfl | (congr 1; done) | (exact congrArg (Value.int _) (by omega)) | (simp; done)) ?_)) (by repeat (first | exact MSub.nil | refine MSub.keep (by first | rfl | assumption) ?_ | refine MSub.drop ?_ | exact MSub.refl _)) ?_
          rintro ⟨i, b6, cap6, rest⟩ ⟨hi, hgr⟩
          simp only at hi hgr ⊢
          have hit2 := iter_lt hfr hit i
          have hit3 := iter_lt hfr hit (i + 1)
          have hgi : usE (g i) = usE (useOf (S.by_ (iter S.fr i c))) := by rw [← hg]
          cases i with
          | zero =>
            simp only [cySl, cyM]
            repeat (first | refine l_val rfl rfl (by first | exact pureEval_ok rfl | exact v_indexA rfl rfl rfl rfl (by omega) (by omega) (by with_reducible first | exact idx3 _ _  ) | exact v_load_row rfl (by repeat (first | exact List.Mem.head _ | apply List.Mem.tail)) rfl rfl (by first | exact rowAt_flat (by first | exact fun _ => rfl ) (by omega) ) rfl ) ?_ | refine c_region ?_ | refine c_seq ?_ | refine r_buildSlice rfl rfl rfl rfl rfl rfl (by rfl) (fun _ => ?_) | refine c_block ?_ )
            refine r_append_nil (m := 1) (ys := usE (useOf (S.by_ (iter S.fr 0 c)))) rfl rfl rfl rfl rfl rfl (news_own (by repeat (first | exact List.Mem.head _ | apply List.Mem.tail))) rfl rfl (by decide) (by decide) (by decide) (fun b7 cap7 rest7 hg7 => ?_)
            have e1 : usE (useOf (S.by_ (iter S.fr 0 c))) = flat 1 (fun j => usE (g j)) := by rw [← hgi]; rfl
            rw [e1] at hg7
            by_cases hb : S.fr (iter S.fr 0 c) = c
            · have hP : P = 1 := by
                rcases Nat.lt_or_ge 1 P with h | h
                · exact absurd hb (hPm 1 (by omega) h)
                · omega
              subst hP
              repeat (first | refine l_val rfl rfl (by first | exact pureEval_ok rfl | exact v_load rfl (by repeat (first | exact List.Mem.head _ | apply List.Mem.tail)) rfl (by rfl) | exact v_indexA rfl rfl rfl rfl (by omega) (by omega) (by with_reducible first | exact idx1 _  ) | exact v_load_at rfl (by repeat (first | exact List.Mem.head _ | apply List.Mem.tail)) rfl rfl (by first | exact ivec_get (by omega) ) ) ?_ | refine l_nil ?_ | refine c_region ?_ | refine c_seq ?_ | refine x_then ?_ | refine c_dec_t rfl (by first | omega ) ?_ | refine c_exit ?_ | refine x_then_exit ?_ | refine x_block_same ?_ | refine x_block_other rfl ?_ )
              refine x_midI (b7, cap7, rest7) hg7 (by repeat (first | exact EnvSub.nil | refine EnvSub.cons rfl (by first | rfl | (congr 1; done) | (exact congrArg (Value.int _) (by omega)) | (simp; done)) ?_)) ?_
              simp only [e1]
              exact (by repeat (first | exact MSub.nil | refine MSub.keep (by first | rfl | assumption) ?_ | refine MSub.drop ?_ | exact MSub.refl _))
            · have h1P : 1 < P := by
                rcases Nat.lt_or_ge 1 P with h | h
                · exact h
                · have : P = 1 := by omega
                  subst this
                  exact absurd hPc hb
              repeat (first | refine l_val rfl rfl (by first | exact pureEval_ok rfl | exact v_load rfl (by repeat (first | exact List.Mem.head _ | apply List.Mem.tail)) rfl (by rfl) | exact v_indexA rfl rfl rfl rfl (by omega) (by omega) (by with_reducible first | exact idx1 _  ) | exact v_load_at rfl (by repeat (first | exact List.Mem.head _ | apply List.Mem.tail)) rfl rfl (by first | exact ivec_get (by omega) ) ) ?_ | refine l_nil ?_ | refine c_region ?_ | refine c_seq ?_ | refine x_then ?_ | refine c_dec_f rfl (by first | omega ) ?_ | refine c_skip ?_ | refine x_block ?_ )
              refine x_back (1, b7, cap7, rest7) ⟨h1P, .inr hg7⟩ (by simp only; omega) (by repeat (first | exact EnvSub.nil | refine EnvSub.cons rfl (by first | rfl | (congr 1; done) | (exact congrArg (Value.int _) (by omega)) | (simp; done)) ?_)) ?_
              simp only [e1, cyM]
              exact (by repeat (first | exact MSub.nil | refine MSub.keep (by first | rfl | assumption) ?_ | refine MSub.drop ?_ | exact MSub.refl _))
          | succ i =>
            simp only [cySl, cyM]
            have hgr := hgr.resolve_left (by omega)
            repeat (first | refine l_val rfl rfl (by first | exact pureEval_ok rfl | exact v_indexA rfl rfl rfl rfl (by omega) (by omega) (by with_reducible first | exact idx3 _ _  ) | exact v_load_row rfl (by repeat (first | exact List.Mem.head _ | apply List.Mem.tail)) rfl rfl (by first | exact rowAt_flat (by first | exact fun _ => rfl ) (by omega) ) rfl ) ?_ | refine c_region ?_ | refine c_seq ?_ | refine r_buildSlice rfl rfl rfl rfl rfl rfl (by rfl) (fun _ => ?_) | refine c_block ?_ )
            refine r_append (m := 1) (ys := usE (useOf (S.by_ (iter S.fr (i + 1) c)))) rfl rfl rfl rfl rfl rfl (news_own (by repeat (first | exact List.Mem.head _ | apply List.Mem.tail))) (by repeat (first | exact Rem.head | apply Rem.tail)) hgr rfl rfl (by decide) (by omega) (by unfold maxLen; omega) (fun b7 cap7 rest7 hg7 => ?_)
            have e1 : flat (i + 1) (fun j => usE (g j)) ++ usE (useOf (S.by_ (iter S.fr (i + 1) c))) = flat (i + 1 + 1) (fun j => usE (g j)) := by rw [← hgi]; exact flat_succ.symm
            rw [e1] at hg7 ⊢
            by_cases hb : S.fr (iter S.fr (i + 1) c) = c
            · have hP : P = i + 1 + 1 := by
                rcases Nat.lt_or_ge (i + 1 + 1) P with h | h
                · exact absurd hb (hPm (i + 1 + 1) (by omega) h)
                · omega
              subst hP
              repeat (first | refine l_val rfl rfl (by first | exact pureEval_ok rfl | exact v_load rfl (by repeat (first | exact List.Mem.head _ | apply List.Mem.tail)) rfl (by rfl) | exact v_indexA rfl rfl rfl rfl (by omega) (by omega) (by with_reducible first | exact idx1 _  ) | exact v_load_at rfl (by repeat (first | exact List.Mem.head _ | apply List.Mem.tail)) rfl rfl (by first | exact ivec_get (by omega) ) ) ?_ | refine l_nil ?_ | refine c_region ?_ | refine c_seq ?_ | refine x_then ?_ | refine c_dec_t rfl (by first | omega ) ?_ | refine c_exit ?_ | refine x_then_exit ?_ | refine x_block_same ?_ | refine x_block_other rfl ?_ )
              exact x_midI (b7, cap7, rest7) hg7 (by repeat (first | exact EnvSub.nil | refine EnvSub.cons rfl (by first | rfl | (congr 1; done) | (exact congrArg (Value.int _) (by omega)) | (simp; done)) ?_)) (by repeat (first | exact MSub.nil | refine MSub.keep (by first | rfl | assumption) ?_ | refine MSub.drop ?_ | exact MSub.refl _))
            · have h1P : i + 1 + 1 < P := by
                rcases Nat.lt_or_ge (i + 1 + 1) P with h | h
                · exact h
                · have : P = i + 1 + 1 := by omega
                  subst this
                  exact absurd hPc hb
              repeat (first | refine l_val rfl rfl (by first | exact pureEval_ok rfl | exact v_load rfl (by repeat (first | exact List.Mem.head _ | apply List.Mem.tail)) rfl (by rfl) | exact v_indexA rfl rfl rfl rfl (by omega) (by omega) (by with_reducible first | exact idx1 _  ) | exact v_load_at rfl (by repeat (first | exact List.Mem.head _ | apply List.Mem.tail)) rfl rfl (by first | exact ivec_get (by omega) ) ) ?_ | refine l_nil ?_ | refine c_region ?_ | refine c_seq ?_ | refine x_then ?_ | refine c_dec_f rfl (by first | omega ) ?_ | refine c_skip ?_ | refine x_block ?_ )
              exact x_back (i + 1 + 1, b7, cap7, rest7) ⟨h1P, .inr hg7⟩ (by simp only; omega) (by repeat (first | exact EnvSub.nil | refine EnvSub.cons rfl (by first | rfl | (congr 1; done) | (exact congrArg (Value.int _) (by omega)) | (simp; done)) ?_)) (by repeat (first | exact MSub.nil | refine MSub.keep (by first | rfl | assumption) ?_ | refine MSub.drop ?_ | exact MSub.refl _))
        · rintro ⟨b8, cap8, rest8⟩ hgr
          simp only at hgr ⊢
          repeat (first | refine l_val rfl rfl (by first | exact v_sub rfl rfl (by omega) (by omega) | exact pureEval_ok rfl ) ?_ | refine l_nil ?_ | refine c_region ?_ | refine c_seq ?_ | refine x_then ?_ | refine c_block ?_ )
          refine c_loop (ι := Nat × Nat) (fun p => p.1 + p.2 + 1 = P ∧ p.1 ≤ P)
            (fun p => [(2, .slice (some ⟨b8, 0, none⟩) P cap8), (12, .int .i64 p.1), (13, .int .i64 p.2)])
            (fun p => (b8, .cells ⟨flat P (fun j => usE (swp g P p.1 j)) ++ rest8⟩ 56 (0, 0)) :: Ds.map opn)
            (fun p => P - p.1) (0, P - 1) ⟨by simp only; omega, by simp only; omega⟩ (by repeat (first | exact EnvSub.nil | refine EnvSub.cons rfl (by first | rfl | (congr 1; done) | (exact congrArg (Value.int _) (by omega)) | (simp; done)) ?_)) (by simp only [swp_0]; exact (by repeat (first | exact MSub.nil | refine MSub.keep (by first | rfl | assumption) ?_ | refine MSub.drop ?_ | exact MSub.refl _))) ?_
          rintro ⟨q, k2⟩ ⟨hqk, hqP⟩
          simp only at hqk hqP ⊢
          by_cases hlt2 : q < k2
          · repeat (first | refine l_val rfl rfl (by first | exact pureEval_ok rfl ) ?_ | refine l_nil ?_ | refine c_region ?_ | refine c_seq ?_ | refine x_then ?_ | refine c_dec_t rfl (by first | omega ) ?_ | refine c_block ?_ | refine c_skip ?_ )
            refine c_gen [(13,0),(15,0)] [(13,0,q*2,2),(15,0,k2*2,2)] [(7,0),(11,0)] rfl (by decide +kernel) (by repeat' (first | exact trivial | apply And.intro | exact Or.inl (Nat.ne_of_beq_eq_false rfl) | (right; simp only; omega))) ?_; repeat (first | refine l_val rfl rfl (by first | exact v_add rfl rfl (by omega) (by omega) | exact v_sub rfl rfl (by omega) (by omega) | exact pureEval_ok rfl ) ?_ | refine l_nil ?_ | refine c_region ?_ | refine x_then ?_ | refine x_block ?_ | refine g_val rfl rfl rfl (by first | exact pureEval_ok rfl | exact v_index rfl rfl rfl rfl (by omega) (by omega) (by with_reducible first | exact idx3 _ _  ) | exact v_load_row rfl (by repeat (first | exact List.Mem.head _ | apply List.Mem.tail)) rfl rfl (by first | exact rowAt_flatR (by first | exact fun _ => rfl ) (by omega) ) rfl ) ?_ | refine g_store rfl rfl rfl rfl rfl rfl rfl rfl (by first | rfl ) rfl rfl (by first | exact flat_fitsR (by first | exact fun _ => rfl | exact iset_len (fun _ => rfl) rfl ) (by omega) ) (by first | exact splice_flatR (by first | exact fun _ => rfl | exact iset_len (fun _ => rfl) rfl ) (by omega) rfl ) rfl ?_ | refine g_nil ?_ )
            refine x_back (q + 1, k2 - 1) ⟨by simp only; omega, by simp only; omega⟩ (by simp only; omega) (by repeat (first | exact EnvSub.nil | refine EnvSub.cons rfl (by first | rfl | (congr 1; done) | (exact congrArg (Value.int _) (by omega)) | (simp; done)) ?_)) ?_
            simp only
            rw [swp_next hqk hlt2]
            exact (by repeat (first | exact MSub.nil | refine MSub.keep (by first | rfl | assumption) ?_ | refine MSub.drop ?_ | exact MSub.refl _))
          · repeat (first | refine l_val rfl rfl (by first | exact pureEval_ok rfl ) ?_ | refine l_nil ?_ | refine c_region ?_ | refine c_seq ?_ | refine x_then ?_ | refine c_dec_f rfl (by first | omega ) ?_ | refine c_ret ?_ | refine c_exit ?_ | refine x_then_exit ?_ | refine x_block_same ?_ )
            refine x_rets (Ds := Ds) rfl rfl (by repeat (first | exact Split.nil | exact Split.all | apply Split.mark | apply Split.keep)) rfl (by repeat (first | exact Res.nil | (apply Res.tmp; rfl) | (apply Res.cell; rfl; exact (by repeat (first | exact List.Mem.head _ | apply List.Mem.tail)); rfl; rfl))) rfl (fun W hW => .inr ⟨h0, ?_, (List.range P).map (fun j => g (P - 1 - j)), b8, cap8, ?_, ?_, ?_, ?_, hW.below, ?_, rest8, ?_⟩)
            · exact ear_no fun t ht => (hgood P hP0 hPc).2 t (hE ▸ ht)
            · intro h
              have := congrArg List.length h
              simp only [List.length_map, List.length_range, List.length_nil] at this; omega
            · simp only [List.length_map, List.length_range]; omega
            · rw [← hg]; exact (hgood P hP0 hPc).1
            · simp only [List.length_map, List.length_range]
            · have h1 := (hW.own (b8, _) (by repeat (first | exact List.Mem.head _ | apply List.Mem.tail))).1
              exact Nat.le_of_not_lt h1
            · have h1 := (hW.own (b8, _) (by repeat (first | exact List.Mem.head _ | apply List.Mem.tail))).2
              have e1 : flat P (fun j => usE (swp g P q j)) = flat ((List.range P).map (fun j => g (P - 1 - j))).length (fun j => usE (((List.range P).map (fun j => g (P - 1 - j))).getD j ⟨0, false⟩)) := by
                simp only [List.length_map, List.length_range]
                refine flat_congr fun j hj => ?_
                rw [swp_end hqk hlt2 hj, List.getD_eq_getElem?_getD, List.getElem?_map, List.getElem?_range hj]; rfl
              rw [← e1]; exact h1
  · repeat (first | refine l_val rfl rfl (by first | exact pureEval_ok rfl ) ?_ | refine l_nil ?_ | refine c_region ?_ | refine c_seq ?_ | refine x_then ?_ | refine c_dec_t rfl (by first | omega ) ?_ | refine c_ret ?_ | refine x_then_ret ?_ )
    exact x_ret rfl rfl (by repeat (first | exact Res.nil | (apply Res.tmp; rfl) | (apply Res.cell; rfl; exact (by repeat (first | exact List.Mem.head _ | apply List.Mem.tail)); rfl; rfl))) rfl (fun W hW => .inl ⟨.inl h0, rfl, hW.below⟩)
end R22
end Go.Proofs

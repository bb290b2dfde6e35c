/- Collating: the laws on codes and pairs. Printed by gen_laws.py. -/
import Derived.Test.YtobiefdkpiognaaClU
import Derived.Test.YtobiefdkpiognaaClH
import Derived.Test.YtobiefdkpiognaaEng26
set_option linter.unusedSectionVars false
set_option linter.unusedVariables false
set_option linter.unusedSimpArgs false
namespace Go.Proofs
open Go.RowKit Go.Kin Go.Kin.Cl
namespace R41
theorem prR_long {a b : List Int} (h : 64 < a.length ∨ 64 < b.length) : prR a b = 2 := if_pos h
theorem Pair_any (a b : List Int) (A B : Option Addr) (ca cb : Nat) (w : World) (hba : ∀ x ∈ a, -9223372036854775808 ≤ x ∧ x ≤ 9223372036854775807) (hbb : ∀ x ∈ b, -9223372036854775808 ≤ x ∧ x ≤ 9223372036854775807)
    (hA : Kin.At w A 1 (a.map inE)) (hB : Kin.At w B 1 (b.map inE)) : Calls Try.prog 26 ⟨[.slice A a.length ca, .slice B b.length cb]⟩ w (PairQ a b w) := by
  by_cases h1 : 64 < a.length
  · have hv := prR_long (b := b) (.inl h1)
    refine fun_enter Try.func26 rfl Try.ntmps26 rfl rfl (satW_nil w) ?_
    repeat (first | refine l_val rfl rfl (by first | exact pureEval_ok rfl | exact v_load rfl (by repeat (first | exact List.Mem.head _ | apply List.Mem.tail)) rfl (by rfl) ) ?_ | refine l_nil ?_ | refine c_region ?_ | refine c_seq ?_ | refine x_then ?_ | refine l_skip rfl rfl ?_ | refine r_box rfl rfl rfl rfl (fun _ => ?_) | refine c_true rfl ?_ | refine c_ret ?_ | refine x_then_ret ?_ | refine l_dec_t rfl rfl rfl rfl rfl (by first | omega ) ?_ )
    exact x_ret rfl rfl (by repeat (first | exact Res.nil | (apply Res.tmp; rfl) | (apply Res.cell; rfl; exact (by repeat (first | exact List.Mem.head _ | apply List.Mem.tail)); rfl; rfl))) rfl (fun W hW => ⟨hW.below, .inl ⟨by rw [hv]; decide, by first | (rw [hv]; done) | (rw [hv]; rfl)⟩⟩)
  by_cases h2 : 64 < b.length
  · have hv := prR_long (a := a) (.inr h2)
    refine fun_enter Try.func26 rfl Try.ntmps26 rfl rfl (satW_nil w) ?_
    repeat (first | refine l_val rfl rfl (by first | exact pureEval_ok rfl | exact v_load rfl (by repeat (first | exact List.Mem.head _ | apply List.Mem.tail)) rfl (by rfl) ) ?_ | refine l_nil ?_ | refine c_region ?_ | refine c_seq ?_ | refine x_then ?_ | refine r_box rfl rfl rfl rfl (fun _ => ?_) | refine c_dec_t rfl (by first | omega ) ?_ | refine c_ret ?_ | refine x_then_ret ?_ | refine l_dec_f rfl rfl rfl rfl rfl (by first | omega ) ?_ )
    exact x_ret rfl rfl (by repeat (first | exact Res.nil | (apply Res.tmp; rfl) | (apply Res.cell; rfl; exact (by repeat (first | exact List.Mem.head _ | apply List.Mem.tail)); rfl; rfl))) rfl (fun W hW => ⟨hW.below, .inl ⟨by rw [hv]; decide, by first | (rw [hv]; done) | (rw [hv]; rfl)⟩⟩)
  exact Pair_calls a b A B ca cb w (by omega) (by omega) hba hbb hA hB
theorem parA_bd (a b : List Int) : 0 ≤ (parA a b).1 ∧ (parA a b).1 ≤ 256 ∧ (parA a b).2.1.length ≤ 128 := by
  unfold parA
  split
  · rename_i h
    have h64 : a.length ≤ 64 ∧ b.length ≤ 64 := by
      unfold prR at h
      split at h
      · cases h
      · omega
    have h1 := ac_bd a b
    have h2 := pairL_len _ 0 0 a b (Nat.le_refl _)
    unfold pairL
    exact ⟨by simp only; omega, by simp only; omega, by simp only; omega⟩
  · exact ⟨(show (0 : Int) ≤ 0 by decide), (show (0 : Int) ≤ 256 by decide), (show (0 : Nat) ≤ 128 by decide)⟩
theorem parA_e (a b : List Int) : (parA a b).2.2 = prR a b := by
  unfold parA
  split
  · rename_i h; exact h.symm
  · rfl
theorem parA_0 {a b : List Int} (h : prR a b = 0) : parA a b = (ac a b, pairL a b, 0) := if_pos h
theorem parA_n {a b : List Int} (h : prR a b ≠ 0) : parA a b = (0, [], prR a b) := if_neg h
theorem prR_0 {a b : List Int} (h : prR a b = 0) : a.length ≤ 64 ∧ b.length ≤ 64 ∧ a.all isC = true ∧ b.all isC = true := by
  unfold prR at h
  split at h
  · cases h
  · rename_i g
    split at h
    · rename_i g2; exact ⟨by omega, by omega, g2.1, g2.2⟩
    · cases h
theorem prR_of {a b : List Int} (h1 : a.length ≤ 64) (h2 : b.length ≤ 64) (h3 : a.all isC = true) (h4 : b.all isC = true) : prR a b = 0 := by unfold prR; rw [if_neg (by omega), if_pos ⟨h3, h4⟩]
theorem newsG_ar {w : World} {D : Nat → Prop} {F : Fence} {n : Nat} {ds : List Deferred} {mem : List (Nat × Obj)} {A : Option Addr} {l : List Int} (h : Ar w D A 1 (l.map inE)) : NewsG ⟨F, n, ds, w, D, noJ⟩ mem A l.length (flatI l) := by
  cases l with
  | nil => exact .inl ⟨rfl, rfl⟩
  | cons x l =>
    obtain ⟨b, o, rfl, -⟩ := h.get (i := 0) (x := x) rfl
    refine .inr ⟨b, o, rfl, ⟨fun W hW j v hj => ?_⟩⟩
    have hj2 : j < (x :: l).length := by have := (List.getElem?_eq_some_iff.1 hj).1; rw [flatI_len] at this; omega
    obtain ⟨b', o', e, hc⟩ := h.get (List.getElem?_eq_getElem hj2)
    cases e
    rw [flatI_map, List.getElem?_map, List.getElem?_eq_getElem hj2] at hj
    have := (hc.move hW.same fun _ h => h).cell 0 _ rfl
    rw [show o + j * 1 + 0 = o + j by omega] at this
    rw [this, ← hj]; rfl
theorem code_unp {c : Int} (h : okS (unp c) = true) : codeV (unp c) = c := by
  obtain ⟨h1, -⟩ := okS_iff.1 h
  rw [unp_flat] at h1 ⊢
  unfold codeV
  simp only at h1 ⊢
  omega
theorem code_pos {c : Int} (h : okS (unp c) = true) : 0 < c := by
  have := (codeV_bd h).1
  rw [code_unp h] at this
  exact this
theorem prR_comm (a b : List Int) : prR a b = prR b a := by
  unfold prR
  simp only [or_comm (a := 64 < b.length), and_comm (a := b.all isC = true)]

set_option maxRecDepth 100000 in
set_option maxHeartbeats 80000000 in
theorem collatePairSpec_calls (A B : Option Addr) (ca cb : Nat) (a b : List Int) (w : World) (ha : ∀ x ∈ a, -9223372036854775808 ≤ x ∧ x ≤ 9223372036854775807) (hA : Kin.At w A 1 (a.map inE)) (hb : ∀ x ∈ b, -9223372036854775808 ≤ x ∧ x ≤ 9223372036854775807) (hB : Kin.At w B 1 (b.map inE)) (hla : a.length ≤ maxLen) (hlb : b.length ≤ maxLen) :
    Calls Try.prog 5 ⟨[.slice A a.length ca, .slice B b.length cb]⟩ w fun e w' => e = .returned (.bool true) ∧ Below w.heap.size w w' := by
  refine fun_enter Try.func5 rfl Try.ntmps5 rfl rfl (satW_nil w) ?_
  repeat (first | refine l_val rfl rfl (by first | exact pureEval_ok rfl ) ?_ | refine l_nil ?_ | refine c_region ?_ | refine c_seq ?_ | refine x_then ?_ )
  refine r_call rfl rfl rfl (fun W hW => sane_calls W) ?_
  repeat (first | refine l_val rfl rfl (by first | exact pureEval_ok rfl ) ?_ | refine l_nil ?_ | refine c_region ?_ | refine c_seq ?_ | refine x_then ?_ | refine c_false rfl ?_ | refine c_skip ?_ )
  refine r_call rfl rfl rfl (fun W hW => few_calls _ _ _ W) ?_
  cases h1 : fewL a.length with
  | false =>
    repeat (first | refine l_val rfl rfl (by first | exact pureEval_ok rfl ) ?_ | refine l_nil ?_ | refine c_region ?_ | refine c_seq ?_ | refine x_then ?_ | refine l_skip rfl rfl ?_ | refine c_true rfl ?_ | refine c_ret ?_ | refine x_then_ret ?_ )
    exact x_ret rfl rfl (by repeat (first | exact Res.nil | (apply Res.tmp; rfl) | (apply Res.cell; rfl; exact (by repeat (first | exact List.Mem.head _ | apply List.Mem.tail)); rfl; rfl))) rfl (fun W hW => ⟨rfl, hW.below⟩)
  | true =>
  repeat (first | refine l_val rfl rfl (by first | exact pureEval_ok rfl ) ?_ )
  refine r_call rfl rfl rfl (fun W hW => few_calls _ _ _ W) ?_
  cases h2 : fewL b.length with
  | false =>
    repeat (first | refine l_val rfl rfl (by first | exact pureEval_ok rfl ) ?_ | refine l_nil ?_ | refine c_region ?_ | refine c_seq ?_ | refine x_then ?_ | refine c_true rfl ?_ | refine c_ret ?_ | refine x_then_ret ?_ )
    exact x_ret rfl rfl (by repeat (first | exact Res.nil | (apply Res.tmp; rfl) | (apply Res.cell; rfl; exact (by repeat (first | exact List.Mem.head _ | apply List.Mem.tail)); rfl; rfl))) rfl (fun W hW => ⟨rfl, hW.below⟩)
  | true =>
  have l1 : a.length ≤ 200 := by have := of_decide_eq_true h1; omega
  have l2 : b.length ≤ 200 := by have := of_decide_eq_true h2; omega
  have hpb := parA_bd a b
  have fa0 : Ar w (base w) A 1 (a.map inE) := Ar.of hA (inE_ne _) (Same.refl _ _) fun _ h => h
  have fb0 : Ar w (base w) B 1 (b.map inE) := Ar.of hB (inE_ne _) (Same.refl _ _) fun _ h => h
  have hS0 : Same (base w) w w := Same.refl _ _
  have hD0 : ∀ k, base w k → base w k := fun _ h => h
  repeat (first | refine l_val rfl rfl (by first | exact pureEval_ok rfl ) ?_ | refine l_nil ?_ | refine c_region ?_ | refine c_seq ?_ | refine x_then ?_ | refine c_false rfl ?_ | refine c_skip ?_ )
  refine l_callF (ι := Option Addr × Nat) (v := fun q => .tuple ⟨[.int .i64 (parA a b).1, .slice q.1 (parA a b).2.1.length q.2, .int .i64 (parA a b).2.2]⟩) (fun q W W' => Fr W W' q.1 2 ((parA a b).2.1.map pQ)) rfl rfl rfl (MSub.refl _) (fun W hW => ?_) ?_
  · refine (Pair_any a b A B ca cb W  ha hb (fa0.at hW) (fb0.at hW)).mono fun e W' h => ?_
    obtain ⟨A', c', h1, h2, h3⟩ := PairQ.fr h
    exact ⟨(A', c'), h1, h2, h3⟩
  rintro ⟨P1, pc1⟩ W W1 hV1 hB1 hW1 hq1
  refine l_gen fun D1 hDe1 => ?_
  simp only at hq1 ⊢
  have hDD1 : ∀ k, base w k → D1 k := by rw [hDe1]; exact hW1.allBut (MSub.refl _)
  have fa1 := fa0.move hW1.same hDD1
  have fb1 := fb0.move hW1.same hDD1
  have hS1 := hS0.trans (hW1.same.mono hD0)
  have hD1 : ∀ k, base w k → D1 k := fun k hk => hDD1 k (hD0 k hk)
  have fp1 : Ar W1 D1 P1 2 ((parA a b).2.1.map pQ) := by rw [hDe1]; exact hq1.ar (pQ_ne _) (SatW.lts hV1)
  clear hV1 hB1 hq1 hDe1
  repeat (first | refine l_val rfl rfl (by first | exact pureEval_ok rfl ) ?_ | refine l_nil ?_ | refine c_region ?_ | refine c_seq ?_ | refine x_then ?_ )
  refine l_callF (ι := Option Addr × Nat) (v := fun q => .tuple ⟨[.int .i64 (parA a b).1, .slice q.1 (parA a b).2.1.length q.2, .int .i64 (parA a b).2.2]⟩) (fun q W W' => Fr W W' q.1 2 ((parA a b).2.1.map pQ)) rfl rfl rfl (MSub.refl _) (fun W hW => ?_) ?_
  · refine (rPair_calls a b A B ca cb W (by omega) (by omega)   (fa1.at hW) (fb1.at hW)).mono fun e W' h => ?_
    obtain ⟨A', c', h1, h2, h3⟩ := PairQ.fr h
    exact ⟨(A', c'), h1, h2, h3⟩
  rintro ⟨P2, pc2⟩ W W2 hV2 hB2 hW2 hq2
  refine l_gen fun D2 hDe2 => ?_
  simp only at hq2 ⊢
  have hDD2 : ∀ k, D1 k → D2 k := by rw [hDe2]; exact hW2.allBut (MSub.refl _)
  have fa2 := fa1.move hW2.same hDD2
  have fb2 := fb1.move hW2.same hDD2
  have fp2 := fp1.move hW2.same hDD2
  have hS2 := hS1.trans (hW2.same.mono hD1)
  have hD2 : ∀ k, base w k → D2 k := fun k hk => hDD2 k (hD1 k hk)
  have fq2 : Ar W2 D2 P2 2 ((parA a b).2.1.map pQ) := by rw [hDe2]; exact hq2.ar (pQ_ne _) (SatW.lts hV2)
  clear hV2 hB2 hq2 hDe2
  repeat (first | refine l_val rfl rfl (by first | exact pureEval_ok rfl ) ?_ | refine l_nil ?_ | refine c_region ?_ | refine c_seq ?_ | refine x_then ?_ | refine l_dec_t rfl rfl rfl rfl rfl (by first | omega ) ?_ )
  obtain ⟨p3, p4, p5⟩ := hpb
  generalize hpa : parA a b = pa at *
  obtain ⟨u1, u2, u3⟩ := pa
  simp only at p3 p4 p5 ⊢
  refine r_call rfl rfl rfl (fun W hW => SamePairs_calls P1 P2 pc1 pc2 u2 u2 W (by omega) (by omega) (fp2.at hW) (fq2.at hW)) ?_
  rw [decide_eq_true (rfl : u2 = u2)]
  repeat (first | refine l_val rfl rfl (by first | exact pureEval_ok rfl ) ?_ | refine l_nil ?_ | refine x_then ?_ | refine c_ret ?_ )
  exact x_ret rfl rfl (by repeat (first | exact Res.nil | (apply Res.tmp; rfl) | (apply Res.cell; rfl; exact (by repeat (first | exact List.Mem.head _ | apply List.Mem.tail)); rfl; rfl))) rfl (fun W hW => ⟨by simp, (hS2.trans (hW.same.mono hD2)).base_later⟩)
set_option maxRecDepth 100000 in
set_option maxHeartbeats 80000000 in
theorem collateMetric_calls (A B C : Option Addr) (ca cb cc : Nat) (a b c : List Int) (w : World) (ha : ∀ x ∈ a, -9223372036854775808 ≤ x ∧ x ≤ 9223372036854775807) (hA : Kin.At w A 1 (a.map inE)) (hb : ∀ x ∈ b, -9223372036854775808 ≤ x ∧ x ≤ 9223372036854775807) (hB : Kin.At w B 1 (b.map inE)) (hc : ∀ x ∈ c, -9223372036854775808 ≤ x ∧ x ≤ 9223372036854775807) (hC : Kin.At w C 1 (c.map inE)) (hla : a.length ≤ maxLen) (hlb : b.length ≤ maxLen) (hlc : c.length ≤ maxLen) :
    Calls Try.prog 7 ⟨[.slice A a.length ca, .slice B b.length cb, .slice C c.length cc]⟩ w fun e w' => e = .returned (.bool true) ∧ Below w.heap.size w w' := by
  refine fun_enter Try.func7 rfl Try.ntmps7 rfl rfl (satW_nil w) ?_
  repeat (first | refine l_val rfl rfl (by first | exact pureEval_ok rfl ) ?_ | refine l_nil ?_ | refine c_region ?_ | refine c_seq ?_ | refine x_then ?_ )
  refine r_call rfl rfl rfl (fun W hW => sane_calls W) ?_
  repeat (first | refine l_val rfl rfl (by first | exact pureEval_ok rfl ) ?_ | refine l_nil ?_ | refine c_region ?_ | refine c_seq ?_ | refine x_then ?_ | refine c_false rfl ?_ | refine c_skip ?_ )
  have fa0 : Ar w (base w) A 1 (a.map inE) := Ar.of hA (inE_ne _) (Same.refl _ _) fun _ h => h
  have fb0 : Ar w (base w) B 1 (b.map inE) := Ar.of hB (inE_ne _) (Same.refl _ _) fun _ h => h
  have fc0 : Ar w (base w) C 1 (c.map inE) := Ar.of hC (inE_ne _) (Same.refl _ _) fun _ h => h
  have hS0 : Same (base w) w w := Same.refl _ _
  have hD0 : ∀ k, base w k → base w k := fun _ h => h
  refine l_callF (ι := Option Addr × Nat) (v := fun q => .tuple ⟨[.int .i64 (parA a b).1, .slice q.1 (parA a b).2.1.length q.2, .int .i64 (parA a b).2.2]⟩) (fun q W W' => Fr W W' q.1 2 ((parA a b).2.1.map pQ)) rfl rfl rfl (MSub.refl _) (fun W hW => ?_) ?_
  · refine (Pair_any a b A B ca cb W  ha hb (fa0.at hW) (fb0.at hW)).mono fun e W' h => ?_
    obtain ⟨A', c', h1, h2, h3⟩ := PairQ.fr h
    exact ⟨(A', c'), h1, h2, h3⟩
  rintro ⟨P1, pc1⟩ W W1 hV1 hB1 hW1 hq1
  refine l_gen fun D1 hDe1 => ?_
  simp only at hq1 ⊢
  have hDD1 : ∀ k, base w k → D1 k := by rw [hDe1]; exact hW1.allBut (MSub.refl _)
  have fa1 := fa0.move hW1.same hDD1
  have fb1 := fb0.move hW1.same hDD1
  have fc1 := fc0.move hW1.same hDD1
  have hS1 := hS0.trans (hW1.same.mono hD0)
  have hD1 : ∀ k, base w k → D1 k := fun k hk => hDD1 k (hD0 k hk)
  clear hV1 hB1 hq1 hDe1
  repeat (first | refine l_val rfl rfl (by first | exact pureEval_ok rfl ) ?_ | refine l_nil ?_ | refine c_region ?_ | refine c_seq ?_ | refine x_then ?_ )
  refine l_callF (ι := Option Addr × Nat) (v := fun q => .tuple ⟨[.int .i64 (parA b a).1, .slice q.1 (parA b a).2.1.length q.2, .int .i64 (parA b a).2.2]⟩) (fun q W W' => Fr W W' q.1 2 ((parA b a).2.1.map pQ)) rfl rfl rfl (MSub.refl _) (fun W hW => ?_) ?_
  · refine (Pair_any b a B A cb ca W  hb ha (fb1.at hW) (fa1.at hW)).mono fun e W' h => ?_
    obtain ⟨A', c', h1, h2, h3⟩ := PairQ.fr h
    exact ⟨(A', c'), h1, h2, h3⟩
  rintro ⟨P2, pc2⟩ W W2 hV2 hB2 hW2 hq2
  refine l_gen fun D2 hDe2 => ?_
  simp only at hq2 ⊢
  have hDD2 : ∀ k, D1 k → D2 k := by rw [hDe2]; exact hW2.allBut (MSub.refl _)
  have fa2 := fa1.move hW2.same hDD2
  have fb2 := fb1.move hW2.same hDD2
  have fc2 := fc1.move hW2.same hDD2
  have hS2 := hS1.trans (hW2.same.mono hD1)
  have hD2 : ∀ k, base w k → D2 k := fun k hk => hDD2 k (hD1 k hk)
  clear hV2 hB2 hq2 hDe2
  repeat (first | refine l_val rfl rfl (by first | exact pureEval_ok rfl ) ?_ | refine l_nil ?_ | refine c_region ?_ | refine c_seq ?_ | refine x_then ?_ )
  refine l_callF (ι := Option Addr × Nat) (v := fun q => .tuple ⟨[.int .i64 (parA b c).1, .slice q.1 (parA b c).2.1.length q.2, .int .i64 (parA b c).2.2]⟩) (fun q W W' => Fr W W' q.1 2 ((parA b c).2.1.map pQ)) rfl rfl rfl (MSub.refl _) (fun W hW => ?_) ?_
  · refine (Pair_any b c B C cb cc W  hb hc (fb2.at hW) (fc2.at hW)).mono fun e W' h => ?_
    obtain ⟨A', c', h1, h2, h3⟩ := PairQ.fr h
    exact ⟨(A', c'), h1, h2, h3⟩
  rintro ⟨P3, pc3⟩ W W3 hV3 hB3 hW3 hq3
  refine l_gen fun D3 hDe3 => ?_
  simp only at hq3 ⊢
  have hDD3 : ∀ k, D2 k → D3 k := by rw [hDe3]; exact hW3.allBut (MSub.refl _)
  have fa3 := fa2.move hW3.same hDD3
  have fb3 := fb2.move hW3.same hDD3
  have fc3 := fc2.move hW3.same hDD3
  have hS3 := hS2.trans (hW3.same.mono hD2)
  have hD3 : ∀ k, base w k → D3 k := fun k hk => hDD3 k (hD2 k hk)
  clear hV3 hB3 hq3 hDe3
  repeat (first | refine l_val rfl rfl (by first | exact pureEval_ok rfl ) ?_ | refine l_nil ?_ | refine c_region ?_ | refine c_seq ?_ | refine x_then ?_ )
  refine l_callF (ι := Option Addr × Nat) (v := fun q => .tuple ⟨[.int .i64 (parA a c).1, .slice q.1 (parA a c).2.1.length q.2, .int .i64 (parA a c).2.2]⟩) (fun q W W' => Fr W W' q.1 2 ((parA a c).2.1.map pQ)) rfl rfl rfl (MSub.refl _) (fun W hW => ?_) ?_
  · refine (Pair_any a c A C ca cc W  ha hc (fa3.at hW) (fc3.at hW)).mono fun e W' h => ?_
    obtain ⟨A', c', h1, h2, h3⟩ := PairQ.fr h
    exact ⟨(A', c'), h1, h2, h3⟩
  rintro ⟨P4, pc4⟩ W W4 hV4 hB4 hW4 hq4
  refine l_gen fun D4 hDe4 => ?_
  simp only at hq4 ⊢
  have hDD4 : ∀ k, D3 k → D4 k := by rw [hDe4]; exact hW4.allBut (MSub.refl _)
  have fa4 := fa3.move hW4.same hDD4
  have fb4 := fb3.move hW4.same hDD4
  have fc4 := fc3.move hW4.same hDD4
  have hS4 := hS3.trans (hW4.same.mono hD3)
  have hD4 : ∀ k, base w k → D4 k := fun k hk => hDD4 k (hD3 k hk)
  clear hV4 hB4 hq4 hDe4
  repeat (first | refine l_val rfl rfl (by first | exact pureEval_ok rfl ) ?_ | refine l_nil ?_ | refine c_region ?_ | refine c_seq ?_ | refine x_then ?_ )
  rw [parA_e a b, parA_e b a, parA_e b c, parA_e a c, prR_comm b a]
  by_cases e1 : prR a b = 0
  rotate_left
  · generalize prR a b = z1 at *
    generalize prR b c = z2 at *
    generalize prR a c = z3 at *
    clear ha hb hc hA hB hC hla hlb hlc
    repeat (first | refine l_val rfl rfl (by first | exact pureEval_ok rfl ) ?_ | refine l_nil ?_ | refine c_region ?_ | refine c_seq ?_ | refine x_then ?_ | refine l_skip rfl rfl ?_ | refine c_true rfl ?_ | refine c_ret ?_ | refine x_then_ret ?_ | refine l_dec_t rfl rfl rfl rfl rfl (by first | omega ) ?_ )
    exact x_ret rfl rfl (by repeat (first | exact Res.nil | (apply Res.tmp; rfl) | (apply Res.cell; rfl; exact (by repeat (first | exact List.Mem.head _ | apply List.Mem.tail)); rfl; rfl))) rfl (fun W hW => ⟨by simp_all, (hS4.trans (hW.same.mono hD4)).base_later⟩)
  by_cases e2 : prR b c = 0
  rotate_left
  · rw [e1]
    generalize prR b c = z2 at *
    generalize prR a c = z3 at *
    repeat (first | refine l_val rfl rfl (by first | exact pureEval_ok rfl ) ?_ | refine l_nil ?_ | refine c_region ?_ | refine c_seq ?_ | refine x_then ?_ | refine l_skip rfl rfl ?_ | refine c_true rfl ?_ | refine c_ret ?_ | refine x_then_ret ?_ | refine l_dec_t rfl rfl rfl rfl rfl (by first | omega ) ?_ )
    exact x_ret rfl rfl (by repeat (first | exact Res.nil | (apply Res.tmp; rfl) | (apply Res.cell; rfl; exact (by repeat (first | exact List.Mem.head _ | apply List.Mem.tail)); rfl; rfl))) rfl (fun W hW => ⟨by simp_all, (hS4.trans (hW.same.mono hD4)).base_later⟩)
  obtain ⟨l1, l2, i1, i2⟩ := prR_0 e1
  obtain ⟨-, l3, -, i3⟩ := prR_0 e2
  have e3 : prR a c = 0 := prR_of l1 l3 i1 i3
  rw [e1, e2, e3, parA_0 e1, parA_0 e2, parA_0 e3, parA_0 ((prR_comm b a).trans e1)]
  simp only
  repeat (first | refine l_val rfl rfl (by first | exact pureEval_ok rfl ) ?_ | refine r_buildSlice rfl rfl rfl rfl rfl rfl (by rfl) (fun _ => ?_) | refine l_dec_f rfl rfl rfl rfl rfl (by first | omega | exact fun h => h rfl ) ?_ )
  rename_i z
  refine r_call rfl rfl rfl (fun W hW => lost_calls (some ⟨z, 0, none⟩) 3 [⟨A, ca, a⟩, ⟨B, cb, b⟩, ⟨C, cc, c⟩] W (by simp) ?_ ⟨hW.rows (by repeat (first | exact List.Mem.head _ | apply List.Mem.tail)) (rest := []) rfl (rv_len _), ?_⟩) ?_
  · intro v hv
    simp only [List.mem_cons, List.not_mem_nil, or_false] at hv
    rcases hv with rfl | rfl | rfl
    · simp only; omega
    · simp only; omega
    · simp only; omega
  · intro v hv
    simp only [List.mem_cons, List.not_mem_nil, or_false] at hv
    rcases hv with rfl | rfl | rfl
    · exact fa4.at hW
    · exact fb4.at hW
    · exact fc4.at hW
  cases hl : ([⟨A, ca, a⟩, ⟨B, cb, b⟩, ⟨C, cc, c⟩] : List RV).any fun v => lostB v.l with
  | true =>
    repeat (first | refine l_val rfl rfl (by first | exact pureEval_ok rfl ) ?_ | refine l_nil ?_ | refine c_region ?_ | refine c_seq ?_ | refine x_then ?_ | refine c_true rfl ?_ | refine c_ret ?_ | refine x_then_ret ?_ )
    exact x_ret rfl rfl (by repeat (first | exact Res.nil | (apply Res.tmp; rfl) | (apply Res.cell; rfl; exact (by repeat (first | exact List.Mem.head _ | apply List.Mem.tail)); rfl; rfl))) rfl (fun W hW => ⟨by simp_all, (hS4.trans (hW.same.mono hD4)).base_later⟩)
  | false =>
  have hl2 := List.any_eq_false.1 hl
  have na : ∀ z ∈ a, z ≠ lostR := lostB_no (by simpa using hl2 ⟨A, ca, a⟩ (by simp))
  have nb : ∀ z ∈ b, z ≠ lostR := lostB_no (by simpa using hl2 ⟨B, cb, b⟩ (by simp))
  have nc : ∀ z ∈ c, z ≠ lostR := lostB_no (by simpa using hl2 ⟨C, cc, c⟩ (by simp))
  have t1 := ac_tri (a := a) (b := b) (d := c) nb
  have t2 := ac_zero na nb
  have t3 := ac_symm b a
  have t4 := ac_bd a b
  have t5 := ac_bd b c
  have t6 := ac_bd a c
  rw [t3]
  clear hl hl2 na nb nc t3
  generalize ac a b = x1 at *
  generalize ac b c = x2 at *
  generalize ac a c = x3 at *
  by_cases hab : a = b
  · have hx : x1 = 0 := t2.2 hab
    have hab := Lib.hid hab
    clear t2
    repeat (first | refine l_val rfl rfl (by first | exact pureEval_ok rfl ) ?_ | refine l_nil ?_ | refine c_region ?_ | refine c_seq ?_ | refine x_then ?_ | refine c_false rfl ?_ | refine c_skip ?_ | refine l_dec_t rfl rfl rfl rfl rfl (by first | omega ) ?_ )
    refine r_call rfl rfl rfl (fun W hW => SameInts_calls A B ca cb a b W (by omega) (by omega) (fa4.at hW) (fb4.at hW)) ?_
    rw [decide_eq_true hab.out]
    repeat (first | refine l_val rfl rfl (by first | exact v_add rfl rfl (by omega) (by omega) | exact pureEval_ok rfl ) ?_ | refine l_nil ?_ | refine x_then ?_ | refine c_ret ?_ | refine l_dec_t rfl rfl rfl rfl rfl (by first | omega ) ?_ | (refine l_bool rfl rfl rfl rfl (b' := true) (by first | (simp; done) | (simp; omega)) ?_) )
    exact x_ret rfl rfl (by repeat (first | exact Res.nil | (apply Res.tmp; rfl) | (apply Res.cell; rfl; exact (by repeat (first | exact List.Mem.head _ | apply List.Mem.tail)); rfl; rfl))) rfl (fun W hW => ⟨by simp_all, (hS4.trans (hW.same.mono hD4)).base_later⟩)
  · have hx : ¬ x1 = 0 := fun h => hab (t2.1 h)
    have hab := Lib.hid hab
    clear t2
    repeat (first | refine l_val rfl rfl (by first | exact pureEval_ok rfl ) ?_ | refine l_nil ?_ | refine c_region ?_ | refine c_seq ?_ | refine x_then ?_ | refine c_false rfl ?_ | refine c_skip ?_ | refine l_dec_t rfl rfl rfl rfl rfl (by first | omega ) ?_ )
    refine r_call rfl rfl rfl (fun W hW => SameInts_calls A B ca cb a b W (by omega) (by omega) (fa4.at hW) (fb4.at hW)) ?_
    rw [decide_eq_false hab.out]
    repeat (first | refine l_val rfl rfl (by first | exact v_add rfl rfl (by omega) (by omega) | exact pureEval_ok rfl ) ?_ | refine l_nil ?_ | refine x_then ?_ | refine c_ret ?_ | refine l_dec_t rfl rfl rfl rfl rfl (by first | omega ) ?_ | (refine l_bool rfl rfl rfl rfl (b' := true) (by first | (simp; done) | (simp; omega)) ?_) )
    exact x_ret rfl rfl (by repeat (first | exact Res.nil | (apply Res.tmp; rfl) | (apply Res.cell; rfl; exact (by repeat (first | exact List.Mem.head _ | apply List.Mem.tail)); rfl; rfl))) rfl (fun W hW => ⟨by simp_all, (hS4.trans (hW.same.mono hD4)).base_later⟩)
set_option maxRecDepth 100000 in
set_option maxHeartbeats 80000000 in
theorem collateBegin_calls (A B C E : Option Addr) (ca cb cc ce : Nat) (a b c e : List Int) (w : World) (ha : ∀ x ∈ a, -9223372036854775808 ≤ x ∧ x ≤ 9223372036854775807) (hA : Kin.At w A 1 (a.map inE)) (hb : ∀ x ∈ b, -9223372036854775808 ≤ x ∧ x ≤ 9223372036854775807) (hB : Kin.At w B 1 (b.map inE)) (hc : ∀ x ∈ c, -9223372036854775808 ≤ x ∧ x ≤ 9223372036854775807) (hC : Kin.At w C 1 (c.map inE)) (he : ∀ x ∈ e, -9223372036854775808 ≤ x ∧ x ≤ 9223372036854775807) (hE : Kin.At w E 1 (e.map inE)) (hla : a.length ≤ maxLen) (hlb : b.length ≤ maxLen) (hlc : c.length ≤ maxLen) (hle : e.length ≤ maxLen) :
    Calls Try.prog 8 ⟨[.slice A a.length ca, .slice B b.length cb, .slice C c.length cc, .slice E e.length ce]⟩ w fun e w' => e = .returned (.bool true) ∧ Below w.heap.size w w' := by
  refine fun_enter Try.func8 rfl Try.ntmps8 rfl rfl (satW_nil w) ?_
  repeat (first | refine l_val rfl rfl (by first | exact pureEval_ok rfl ) ?_ | refine l_nil ?_ | refine c_region ?_ | refine c_seq ?_ | refine x_then ?_ )
  refine r_call rfl rfl rfl (fun W hW => sane_calls W) ?_
  repeat (first | refine l_val rfl rfl (by first | exact pureEval_ok rfl ) ?_ | refine l_nil ?_ | refine c_region ?_ | refine c_seq ?_ | refine x_then ?_ | refine c_false rfl ?_ | refine c_skip ?_ )
  by_cases lc : 64 < c.length
  · skip
    repeat (first | refine l_val rfl rfl (by first | exact pureEval_ok rfl ) ?_ | refine l_nil ?_ | refine c_region ?_ | refine c_seq ?_ | refine x_then ?_ | refine l_skip rfl rfl ?_ | refine c_true rfl ?_ | refine c_ret ?_ | refine x_then_ret ?_ | refine l_dec_t rfl rfl rfl rfl rfl (by first | omega ) ?_ )
    exact x_ret rfl rfl (by repeat (first | exact Res.nil | (apply Res.tmp; rfl) | (apply Res.cell; rfl; exact (by repeat (first | exact List.Mem.head _ | apply List.Mem.tail)); rfl; rfl))) rfl (fun W hW => ⟨rfl, hW.below⟩)
  by_cases le : 64 < e.length
  · skip
    repeat (first | refine l_val rfl rfl (by first | exact pureEval_ok rfl ) ?_ | refine l_nil ?_ | refine c_region ?_ | refine c_seq ?_ | refine x_then ?_ | refine l_skip rfl rfl ?_ | refine c_true rfl ?_ | refine c_ret ?_ | refine x_then_ret ?_ | refine l_dec_t rfl rfl rfl rfl rfl (by first | omega ) ?_ | refine l_dec_f rfl rfl rfl rfl rfl (by first | omega ) ?_ )
    exact x_ret rfl rfl (by repeat (first | exact Res.nil | (apply Res.tmp; rfl) | (apply Res.cell; rfl; exact (by repeat (first | exact List.Mem.head _ | apply List.Mem.tail)); rfl; rfl))) rfl (fun W hW => ⟨rfl, hW.below⟩)
  by_cases la : 64 < a.length
  · skip
    repeat (first | refine l_val rfl rfl (by first | exact pureEval_ok rfl ) ?_ | refine l_nil ?_ | refine c_region ?_ | refine c_seq ?_ | refine x_then ?_ | refine l_skip rfl rfl ?_ | refine c_true rfl ?_ | refine c_ret ?_ | refine x_then_ret ?_ | refine l_dec_t rfl rfl rfl rfl rfl (by first | omega ) ?_ | refine l_dec_f rfl rfl rfl rfl rfl (by first | omega ) ?_ )
    exact x_ret rfl rfl (by repeat (first | exact Res.nil | (apply Res.tmp; rfl) | (apply Res.cell; rfl; exact (by repeat (first | exact List.Mem.head _ | apply List.Mem.tail)); rfl; rfl))) rfl (fun W hW => ⟨rfl, hW.below⟩)
  by_cases lb : 64 < b.length
  · skip
    repeat (first | refine l_val rfl rfl (by first | exact pureEval_ok rfl ) ?_ | refine l_nil ?_ | refine c_region ?_ | refine c_seq ?_ | refine x_then ?_ | refine l_skip rfl rfl ?_ | refine c_true rfl ?_ | refine c_ret ?_ | refine x_then_ret ?_ | refine l_dec_t rfl rfl rfl rfl rfl (by first | omega ) ?_ | refine l_dec_f rfl rfl rfl rfl rfl (by first | omega ) ?_ )
    exact x_ret rfl rfl (by repeat (first | exact Res.nil | (apply Res.tmp; rfl) | (apply Res.cell; rfl; exact (by repeat (first | exact List.Mem.head _ | apply List.Mem.tail)); rfl; rfl))) rfl (fun W hW => ⟨rfl, hW.below⟩)
  have l1 : a.length ≤ 64 := by omega
  have l2 : b.length ≤ 64 := by omega
  have l3 : c.length ≤ 64 := by omega
  have l4 : e.length ≤ 64 := by omega
  repeat (first | refine l_val rfl rfl (by first | exact pureEval_ok rfl ) ?_ | refine r_buildSlice rfl rfl rfl rfl rfl rfl (by rfl) (fun _ => ?_) | refine l_dec_f rfl rfl rfl rfl rfl (by first | omega ) ?_ )
  rename_i z
  refine r_call rfl rfl rfl (fun W hW => lost_calls (some ⟨z, 0, none⟩) 4 [⟨A, ca, a⟩, ⟨B, cb, b⟩, ⟨C, cc, c⟩, ⟨E, ce, e⟩] W (by simp) ?_ ⟨hW.rows (by repeat (first | exact List.Mem.head _ | apply List.Mem.tail)) (rest := []) rfl (rv_len _), ?_⟩) ?_
  · intro v hv
    simp only [List.mem_cons, List.not_mem_nil, or_false] at hv
    rcases hv with rfl | rfl | rfl | rfl <;> (simp only; omega)
  · intro v hv
    simp only [List.mem_cons, List.not_mem_nil, or_false] at hv
    rcases hv with rfl | rfl | rfl | rfl
    · exact hA.sat hW
    · exact hB.sat hW
    · exact hC.sat hW
    · exact hE.sat hW
  cases hl : ([⟨A, ca, a⟩, ⟨B, cb, b⟩, ⟨C, cc, c⟩, ⟨E, ce, e⟩] : List RV).any fun v => lostB v.l with
  | true =>
    repeat (first | refine l_val rfl rfl (by first | exact pureEval_ok rfl ) ?_ | refine l_nil ?_ | refine c_region ?_ | refine c_seq ?_ | refine x_then ?_ | refine c_true rfl ?_ | refine c_ret ?_ | refine x_then_ret ?_ )
    exact x_ret rfl rfl (by repeat (first | exact Res.nil | (apply Res.tmp; rfl) | (apply Res.cell; rfl; exact (by repeat (first | exact List.Mem.head _ | apply List.Mem.tail)); rfl; rfl))) rfl (fun W hW => ⟨rfl, hW.below⟩)
  | false =>
  have hl2 := List.any_eq_false.1 hl
  have na : ∀ z ∈ a, z ≠ lostR := lostB_no (by simpa using hl2 ⟨A, ca, a⟩ (by simp))
  have nb : ∀ z ∈ b, z ≠ lostR := lostB_no (by simpa using hl2 ⟨B, cb, b⟩ (by simp))
  have nc : ∀ z ∈ c, z ≠ lostR := lostB_no (by simpa using hl2 ⟨C, cc, c⟩ (by simp))
  have ne : ∀ z ∈ e, z ≠ lostR := lostB_no (by simpa using hl2 ⟨E, ce, e⟩ (by simp))
  have har := ac_around nc ne na nb
  clear hl hl2 na nb nc ne la lb lc le
  have fa0 : Ar w (base w) A 1 (a.map inE) := Ar.of hA (inE_ne _) (Same.refl _ _) fun _ h => h
  have fb0 : Ar w (base w) B 1 (b.map inE) := Ar.of hB (inE_ne _) (Same.refl _ _) fun _ h => h
  have fc0 : Ar w (base w) C 1 (c.map inE) := Ar.of hC (inE_ne _) (Same.refl _ _) fun _ h => h
  have fe0 : Ar w (base w) E 1 (e.map inE) := Ar.of hE (inE_ne _) (Same.refl _ _) fun _ h => h
  have hS0 : Same (base w) w w := Same.refl _ _
  have hD0 : ∀ k, base w k → base w k := fun _ h => h
  repeat (first | refine l_val rfl rfl (by first | exact pureEval_ok rfl ) ?_ | refine l_nil ?_ | refine c_region ?_ | refine c_seq ?_ | refine x_then ?_ | refine c_false rfl ?_ | refine c_skip ?_ )
  refine l_callF (ι := Option Addr × Nat) (v := fun q => .tuple ⟨[.int .i64 (parA a b).1, .slice q.1 (parA a b).2.1.length q.2, .int .i64 (parA a b).2.2]⟩) (fun q W W' => Fr W W' q.1 2 ((parA a b).2.1.map pQ)) rfl rfl rfl (MSub.refl _) (fun W hW => ?_) ?_
  · refine (Pair_any a b A B ca cb W  ha hb (fa0.at hW) (fb0.at hW)).mono fun e W' h => ?_
    obtain ⟨A', c', h1, h2, h3⟩ := PairQ.fr h
    exact ⟨(A', c'), h1, h2, h3⟩
  rintro ⟨P1, pc1⟩ W W1 hV1 hB1 hW1 hq1
  refine l_gen fun D1 hDe1 => ?_
  simp only at hq1 ⊢
  have hDD1 : ∀ k, base w k → D1 k := by rw [hDe1]; exact hW1.allBut (MSub.refl _)
  have fa1 := fa0.move hW1.same hDD1
  have fb1 := fb0.move hW1.same hDD1
  have fc1 := fc0.move hW1.same hDD1
  have fe1 := fe0.move hW1.same hDD1
  have hS1 := hS0.trans (hW1.same.mono hD0)
  have hD1 : ∀ k, base w k → D1 k := fun k hk => hDD1 k (hD0 k hk)
  clear hV1 hB1 hq1 hDe1
  repeat (first | refine l_val rfl rfl (by first | exact pureEval_ok rfl ) ?_ | refine l_nil ?_ | refine c_region ?_ | refine c_seq ?_ | refine x_then ?_ | refine r_buildSlice rfl rfl rfl rfl rfl rfl (by rfl) (fun _ => ?_) )
  rw [parA_e a b]
  rename_i zx
  refine r_appendG (ys := flatI c) (xs := []) (rest := []) rfl rfl rfl rfl rfl rfl (newsG_ar fc1) (by repeat (first | exact Rem.head | apply Rem.tail)) ⟨rfl, rfl, Nat.le_refl _, by decide⟩ (flatI_len _) (flatI_one _) (by decide) (by omega) (by unfold maxLen; omega) (fun bx0 cx0 rx0 hgx0 => ?_)
  rw [List.nil_append, Nat.zero_add] at hgx0 ⊢
  repeat (first | refine l_val rfl rfl (by first | exact pureEval_ok rfl ) ?_ )
  refine r_appendG (ys := flatI a) (xs := flatI c) (rest := rx0) rfl rfl rfl rfl rfl rfl (newsG_ar fa1) (by repeat (first | exact Rem.head | apply Rem.tail)) hgx0 (flatI_len _) (flatI_one _) (by decide) (by omega) (by unfold maxLen; omega) (fun bx1 cx1 rx1 hgx1 => ?_)
  rw [← flatI_app] at hgx1 ⊢
  repeat (first | refine l_val rfl rfl (by first | exact pureEval_ok rfl ) ?_ )
  refine r_appendG (ys := flatI e) (xs := flatI (c ++ a)) (rest := rx1) rfl rfl rfl rfl rfl rfl (newsG_ar fe1) (by repeat (first | exact Rem.head | apply Rem.tail)) hgx1 (flatI_len _) (flatI_one _) (by decide) (by omega) (by unfold maxLen; omega) (fun bx2 cx2 rx2 hgx2 => ?_)
  rw [← flatI_app] at hgx2 ⊢
  repeat (first | refine l_val rfl rfl (by first | exact pureEval_ok rfl ) ?_ | refine r_buildSlice rfl rfl rfl rfl rfl rfl (by rfl) (fun _ => ?_) )
  rename_i zy
  refine r_appendG (ys := flatI c) (xs := []) (rest := []) rfl rfl rfl rfl rfl rfl (newsG_ar fc1) (by repeat (first | exact Rem.head | apply Rem.tail)) ⟨rfl, rfl, Nat.le_refl _, by decide⟩ (flatI_len _) (flatI_one _) (by decide) (by omega) (by unfold maxLen; omega) (fun by0 cy0 ry0 hgy0 => ?_)
  rw [List.nil_append, Nat.zero_add] at hgy0 ⊢
  repeat (first | refine l_val rfl rfl (by first | exact pureEval_ok rfl ) ?_ )
  refine r_appendG (ys := flatI b) (xs := flatI c) (rest := ry0) rfl rfl rfl rfl rfl rfl (newsG_ar fb1) (by repeat (first | exact Rem.head | apply Rem.tail)) hgy0 (flatI_len _) (flatI_one _) (by decide) (by omega) (by unfold maxLen; omega) (fun by1 cy1 ry1 hgy1 => ?_)
  rw [← flatI_app] at hgy1 ⊢
  repeat (first | refine l_val rfl rfl (by first | exact pureEval_ok rfl ) ?_ )
  refine r_appendG (ys := flatI e) (xs := flatI (c ++ b)) (rest := ry1) rfl rfl rfl rfl rfl rfl (newsG_ar fe1) (by repeat (first | exact Rem.head | apply Rem.tail)) hgy1 (flatI_len _) (flatI_one _) (by decide) (by omega) (by unfold maxLen; omega) (fun by2 cy2 ry2 hgy2 => ?_)
  rw [← flatI_app] at hgy2 ⊢
  skip
  refine l_callF (ι := Option Addr × Nat) (v := fun q => .tuple ⟨[.int .i64 (parA (c ++ a ++ e) (c ++ b ++ e)).1, .slice q.1 (parA (c ++ a ++ e) (c ++ b ++ e)).2.1.length q.2, .int .i64 (parA (c ++ a ++ e) (c ++ b ++ e)).2.2]⟩) (fun q W W' => True) rfl rfl rfl (MSub.refl _) (fun W hW => ?_) ?_
  · have hcall := Pair_any (c ++ a ++ e) (c ++ b ++ e) (some ⟨bx2, 0, none⟩) (some ⟨by2, 0, none⟩) cx2 cy2 W (fun z hz => by simp only [List.mem_append] at hz; rcases hz with (hz | hz) | hz; exact hc z hz; exact ha z hz; exact he z hz) (fun z hz => by simp only [List.mem_append] at hz; rcases hz with (hz | hz) | hz; exact hc z hz; exact hb z hz; exact he z hz) (hW.rows (by repeat (first | exact List.Mem.head _ | apply List.Mem.tail)) (rest := rx2) rfl (in_len _)) (hW.rows (by repeat (first | exact List.Mem.head _ | apply List.Mem.tail)) (rest := ry2) rfl (in_len _))
    rw [List.length_append, List.length_append, List.length_append, List.length_append] at hcall
    refine hcall.mono fun e W' h => ?_
    obtain ⟨A', c', h1, h2, h3⟩ := PairQ.fr h
    exact ⟨(A', c'), h1, h2, trivial⟩
  rintro ⟨P9, pc9⟩ W W9 hV9 hB9 hW9 -
  refine l_gen fun D9 hDe9 => ?_
  have hDD9 : ∀ k, D1 k → D9 k := by rw [hDe9]; exact hW9.allBut (MSub.refl _)
  have hS9 := hS1.trans (hW9.same.mono hD1)
  have hD9 : ∀ k, base w k → D9 k := fun k hk => hDD9 k (hD1 k hk)
  clear hV9 hB9 hDe9
  rw [parA_e (c ++ a ++ e) (c ++ b ++ e)]
  by_cases e2 : prR (c ++ a ++ e) (c ++ b ++ e) = 0
  · obtain ⟨k1, k2, k3, k4⟩ := prR_0 e2
    simp only [List.all_append, Bool.and_eq_true, List.length_append] at k1 k2 k3 k4
    have e1 : prR a b = 0 := prR_of l1 l2 k3.1.2 k4.1.2
    have hv : (parA (c ++ a ++ e) (c ++ b ++ e)).1 = (parA a b).1 := by rw [parA_0 e1, parA_0 e2]; exact har
    rw [e1, e2, hv]
    generalize parA a b = pa at *
    clear k3 k4
    repeat (first | refine l_val rfl rfl (by first | exact pureEval_ok rfl ) ?_ | refine l_nil ?_ | refine c_region ?_ | refine c_seq ?_ | refine x_then ?_ | refine c_ret ?_ )
    exact x_ret rfl rfl (by repeat (first | exact Res.nil | (apply Res.tmp; rfl) | (apply Res.cell; rfl; exact (by repeat (first | exact List.Mem.head _ | apply List.Mem.tail)); rfl; rfl))) rfl (fun W hW => ⟨by simp_all, (hS9.trans (hW.same.mono hD9)).base_later⟩)
  · generalize prR (c ++ a ++ e) (c ++ b ++ e) = z2 at *
    repeat (first | refine l_val rfl rfl (by first | exact pureEval_ok rfl ) ?_ | refine l_nil ?_ | refine c_region ?_ | refine c_seq ?_ | refine x_then ?_ | refine l_skip rfl rfl ?_ | refine c_ret ?_ | refine l_dec_t rfl rfl rfl rfl rfl (by first | omega ) ?_ )
    exact x_ret rfl rfl (by repeat (first | exact Res.nil | (apply Res.tmp; rfl) | (apply Res.cell; rfl; exact (by repeat (first | exact List.Mem.head _ | apply List.Mem.tail)); rfl; rfl))) rfl (fun W hW => ⟨by simp_all, (hS9.trans (hW.same.mono hD9)).base_later⟩)
set_option maxRecDepth 100000 in
set_option maxHeartbeats 80000000 in
theorem collateLeast_calls (A B T : Option Addr) (ca cb ct : Nat) (a b : List Int) (o : List (Int × Int)) (w : World) (ha : ∀ x ∈ a, -9223372036854775808 ≤ x ∧ x ≤ 9223372036854775807) (hA : Kin.At w A 1 (a.map inE)) (hb : ∀ x ∈ b, -9223372036854775808 ≤ x ∧ x ≤ 9223372036854775807) (hB : Kin.At w B 1 (b.map inE)) (hT : Kin.At w T 2 (o.map pQ)) (hla : a.length ≤ maxLen) (hlb : b.length ≤ maxLen) (hlo : o.length ≤ 9223372036854775807) :
    Calls Try.prog 6 ⟨[.slice A a.length ca, .slice B b.length cb, .slice T o.length ct]⟩ w fun e w' => e = .returned (.bool true) ∧ Below w.heap.size w w' := by
  refine fun_enter Try.func6 rfl Try.ntmps6 rfl rfl (satW_nil w) ?_
  repeat (first | refine l_val rfl rfl (by first | exact pureEval_ok rfl ) ?_ | refine l_nil ?_ | refine c_region ?_ | refine c_seq ?_ | refine x_then ?_ )
  refine r_call rfl rfl rfl (fun W hW => sane_calls W) ?_
  repeat (first | refine l_val rfl rfl (by first | exact pureEval_ok rfl ) ?_ | refine l_nil ?_ | refine c_region ?_ | refine c_seq ?_ | refine x_then ?_ | refine c_false rfl ?_ | refine c_skip ?_ )
  have fa0 : Ar w (base w) A 1 (a.map inE) := Ar.of hA (inE_ne _) (Same.refl _ _) fun _ h => h
  have fb0 : Ar w (base w) B 1 (b.map inE) := Ar.of hB (inE_ne _) (Same.refl _ _) fun _ h => h
  have hS0 : Same (base w) w w := Same.refl _ _
  have hD0 : ∀ k, base w k → base w k := fun _ h => h
  have fo0 : Ar w (base w) T 2 (o.map pQ) := Ar.of hT (pQ_ne _) (Same.refl _ _) fun _ h => h
  refine l_callF (ι := Option Addr × Nat) (v := fun q => .tuple ⟨[.int .i64 (parA a b).1, .slice q.1 (parA a b).2.1.length q.2, .int .i64 (parA a b).2.2]⟩) (fun q W W' => Fr W W' q.1 2 ((parA a b).2.1.map pQ)) rfl rfl rfl (MSub.refl _) (fun W hW => ?_) ?_
  · refine (Pair_any a b A B ca cb W  ha hb (fa0.at hW) (fb0.at hW)).mono fun e W' h => ?_
    obtain ⟨A', c', h1, h2, h3⟩ := PairQ.fr h
    exact ⟨(A', c'), h1, h2, h3⟩
  rintro ⟨P1, pc1⟩ W W1 hV1 hB1 hW1 hq1
  refine l_gen fun D1 hDe1 => ?_
  simp only at hq1 ⊢
  have hDD1 : ∀ k, base w k → D1 k := by rw [hDe1]; exact hW1.allBut (MSub.refl _)
  have fa1 := fa0.move hW1.same hDD1
  have fb1 := fb0.move hW1.same hDD1
  have fo1 := fo0.move hW1.same hDD1
  have hS1 := hS0.trans (hW1.same.mono hD0)
  have hD1 : ∀ k, base w k → D1 k := fun k hk => hDD1 k (hD0 k hk)
  have fp1 : Ar W1 D1 P1 2 ((parA a b).2.1.map pQ) := by rw [hDe1]; exact hq1.ar (pQ_ne _) (SatW.lts hV1)
  clear hV1 hB1 hq1 hDe1
  repeat (first | refine l_val rfl rfl (by first | exact pureEval_ok rfl ) ?_ | refine l_nil ?_ | refine c_region ?_ | refine c_seq ?_ | refine x_then ?_ )
  rw [parA_e a b]
  by_cases e1 : prR a b = 0
  rotate_left
  · have hv := parA_n e1
    rw [hv]
    generalize prR a b = z at *
    repeat (first | refine l_val rfl rfl (by first | exact pureEval_ok rfl ) ?_ | refine l_nil ?_ | refine c_region ?_ | refine c_seq ?_ | refine x_then ?_ | refine c_dec_t rfl (by first | omega ) ?_ | refine c_ret ?_ | refine x_then_ret ?_ )
    exact x_ret rfl rfl (by repeat (first | exact Res.nil | (apply Res.tmp; rfl) | (apply Res.cell; rfl; exact (by repeat (first | exact List.Mem.head _ | apply List.Mem.tail)); rfl; rfl))) rfl (fun W hW => ⟨by simp, (hS1.trans (hW.same.mono hD1)).base_later⟩)
  obtain ⟨l1, l2, i1, i2⟩ := prR_0 e1
  have hpl := (parA_bd a b).2.2
  have hv := parA_0 e1
  have hpp := fp1
  rw [hv] at hpl hpp ⊢
  rw [e1]
  simp only at hpl hpp ⊢
  have hb1 := wgh_best a b
  have hw2 : wgh a b (pairL a b) 0 0 0 = some (ac a b) := hb1
  have hacb := ac_bd a b
  generalize hac : ac a b = x at *
  repeat (first | refine l_val rfl rfl (by first | exact pureEval_ok rfl ) ?_ | refine c_region ?_ | refine c_seq ?_ | refine x_then ?_ | refine c_false rfl ?_ | refine c_skip ?_ )
  refine l_call (ι := Unit) (v := fun _ => .tuple ⟨[.int .i64 x, .bool true]⟩) (mem' := fun _ => []) rfl rfl rfl (fun W hW => (weigh_calls a b (pairL a b) A B P1 ca cb pc1 W l1 l2 (by omega) (fa1.at hW) (fb1.at hW) (hpp.at hW)).mono fun e W' ⟨⟨c, h1, h2⟩, h3⟩ => ⟨(), ?_, hW.later h3⟩) (fun _ => ?_)
  · rw [hw2] at h1
    rw [h2 x hw2] at h1
    exact h1
  repeat (first | refine l_val rfl rfl (by first | exact pureEval_ok rfl ) ?_ | refine l_nil ?_ | refine c_region ?_ | refine c_seq ?_ | refine x_then ?_ | refine c_dec_f rfl (by first | omega | exact fun h => h rfl ) ?_ | refine c_skip ?_ )
  cases ho : wgh a b o 0 0 0 with
  | none =>
    refine l_call (ι := Int) (v := fun c => .tuple ⟨[.int .i64 c, .bool false]⟩) (mem' := fun _ => []) rfl rfl rfl (fun W hW => (weigh_calls a b o A B T ca cb ct W l1 l2 hlo (fa1.at hW) (fb1.at hW) (fo1.at hW)).mono fun e W' ⟨⟨c, h1, h2⟩, h3⟩ => ⟨c, ?_, hW.later h3⟩) (fun c => ?_)
    · rw [ho] at h1
      exact h1
    repeat (first | refine l_val rfl rfl (by first | exact pureEval_ok rfl ) ?_ | refine l_nil ?_ | refine c_region ?_ | refine c_seq ?_ | refine x_then ?_ | refine l_skip rfl rfl ?_ | refine c_ret ?_ )
    exact x_ret rfl rfl (by repeat (first | exact Res.nil | (apply Res.tmp; rfl) | (apply Res.cell; rfl; exact (by repeat (first | exact List.Mem.head _ | apply List.Mem.tail)); rfl; rfl))) rfl (fun W hW => ⟨by simp, (hS1.trans (hW.same.mono hD1)).base_later⟩)
  | some r =>
    have hoth := wgh_other ho
    rw [hac] at hoth
    have hoth := Lib.hid hoth
    refine l_call (ι := Unit) (v := fun _ => .tuple ⟨[.int .i64 r, .bool true]⟩) (mem' := fun _ => []) rfl rfl rfl (fun W hW => (weigh_calls a b o A B T ca cb ct W l1 l2 hlo (fa1.at hW) (fb1.at hW) (fo1.at hW)).mono fun e W' ⟨⟨c, h1, h2⟩, h3⟩ => ⟨(), ?_, hW.later h3⟩) (fun _ => ?_)
    · rw [ho] at h1
      rw [h2 r ho] at h1
      exact h1
    by_cases hr : x < r
    · repeat (first | refine l_val rfl rfl (by first | exact pureEval_ok rfl ) ?_ | refine l_nil ?_ | refine c_region ?_ | refine c_seq ?_ | refine x_then ?_ | refine l_skip rfl rfl ?_ | refine c_ret ?_ | refine l_dec_t rfl rfl rfl rfl rfl (by first | omega ) ?_ )
      exact x_ret rfl rfl (by repeat (first | exact Res.nil | (apply Res.tmp; rfl) | (apply Res.cell; rfl; exact (by repeat (first | exact List.Mem.head _ | apply List.Mem.tail)); rfl; rfl))) rfl (fun W hW => ⟨by simp, (hS1.trans (hW.same.mono hD1)).base_later⟩)
    · have hre : r = x := by rcases hoth.out with h | h <;> omega
      have hfi : firstP o (pairL a b) = false := by
        rcases hoth.out with h | h
        · exact absurd h hr
        · exact h.2
      repeat (first | refine l_val rfl rfl (by first | exact pureEval_ok rfl ) ?_ | refine l_nil ?_ | refine c_region ?_ | refine c_seq ?_ | refine x_then ?_ | refine l_dec_t rfl rfl rfl rfl rfl (by first | omega ) ?_ | refine l_dec_f rfl rfl rfl rfl rfl (by first | omega ) ?_ )
      refine r_call rfl rfl rfl (fun W hW => first_calls T P1 ct pc1 o (pairL a b) W (by omega) (by omega) (fo1.at hW) (hpp.at hW)) ?_
      rw [hfi]
      repeat (first | refine l_val rfl rfl (by first | exact pureEval_ok rfl ) ?_ | refine l_nil ?_ | refine x_then ?_ | refine c_ret ?_ )
      exact x_ret rfl rfl (by repeat (first | exact Res.nil | (apply Res.tmp; rfl) | (apply Res.cell; rfl; exact (by repeat (first | exact List.Mem.head _ | apply List.Mem.tail)); rfl; rfl))) rfl (fun W hW => ⟨by simp, (hS1.trans (hW.same.mono hD1)).base_later⟩)
set_option maxRecDepth 100000 in
set_option maxHeartbeats 80000000 in
theorem collateCodes_calls (s : Sg) (c : Int) (w : World) (hc : -9223372036854775808 ≤ c ∧ c ≤ 9223372036854775807) :
    Calls Try.prog 10 ⟨[.agg ⟨sgE s⟩, .int .i64 c]⟩ w fun e w' => e = .returned (.bool true) ∧ Below w.heap.size w w' := by
  refine fun_enter Try.func10 rfl Try.ntmps10 rfl rfl (satW_nil w) ?_
  repeat (first | refine l_val rfl rfl (by first | exact pureEval_ok rfl ) ?_ | refine l_nil ?_ | refine c_region ?_ | refine c_seq ?_ | refine x_then ?_ | refine r_box rfl rfl rfl rfl (fun _ => ?_) )
  refine r_call rfl rfl rfl (fun W hW => sane_calls W) ?_
  repeat (first | refine l_val rfl rfl (by first | exact pureEval_ok rfl ) ?_ | refine l_nil ?_ | refine c_region ?_ | refine c_seq ?_ | refine x_then ?_ | refine c_false rfl ?_ | refine c_skip ?_ )
  refine r_call rfl rfl rfl (fun W hW => Sign_calls c W hc) ?_
  have tail : True := trivial
  by_cases h : okS (unp c) = true
  · obtain ⟨r1, r2⟩ := unp_range h
    have hcod : codA (unp c) = (c, 0) := by rw [codA_t h, code_unp h]
    have hcp := code_pos h
    rw [sgnA_t h]
    unfold vS
    repeat (first | refine l_val rfl rfl (by first | exact pureEval_ok rfl | exact v_load rfl (by repeat (first | exact List.Mem.head _ | apply List.Mem.tail)) rfl (by rfl) ) ?_ | refine l_nil ?_ | refine c_region ?_ | refine c_seq ?_ | refine x_then ?_ | refine r_alloc rfl rfl rfl (by first | exact aggL ) (fun _ => ?_) | refine r_store rfl rfl rfl rfl rfl rfl rfl (by repeat (first | exact Upd.head | apply Upd.tail)) (by rfl) ?_ | refine c_true rfl ?_ )
    refine r_call rfl rfl rfl (fun W hW => Code_calls (unp c) W) ?_
    rw [hcod]
    unfold v2
    repeat (first | refine l_val rfl rfl (by first | exact pureEval_ok rfl | exact v_load rfl (by repeat (first | exact List.Mem.head _ | apply List.Mem.tail)) rfl (by rfl) ) ?_ | refine l_nil ?_ | refine c_region ?_ | refine c_seq ?_ | refine x_then ?_ | refine c_dec_f rfl (by first | omega | exact fun h => h rfl ) ?_ | refine c_skip ?_ | refine l_dec_f rfl rfl rfl rfl rfl (by first | omega | exact fun h => h rfl ) ?_ )
    refine r_call rfl rfl rfl (fun W hW => Code_calls s W) ?_
    by_cases g : okS s = true
    · have hb := codeV_bd g
      rw [codA_t g]
      unfold v2
      repeat (first | refine l_val rfl rfl (by first | exact pureEval_ok rfl | exact v_load rfl (by repeat (first | exact List.Mem.head _ | apply List.Mem.tail)) rfl (by rfl) | exact v_build rfl rfl (by rfl) ) ?_ | refine l_nil ?_ | refine c_region ?_ | refine c_seq ?_ | refine x_then ?_ | refine r_alloc rfl rfl rfl (by first | exact aggL ) (fun _ => ?_) | refine r_store rfl rfl rfl rfl rfl rfl rfl (by repeat (first | exact Upd.head | apply Upd.tail)) (by rfl) ?_ )
      refine r_call rfl rfl rfl (fun W hW => Code_calls (bare s) W) ?_
      rw [codA_t (s := bare s) g, codeV_bare]
      unfold v2
      generalize hcv : codeV s = cv at *
      repeat (first | refine l_val rfl rfl (by first | exact pureEval_ok rfl ) ?_ | refine l_nil ?_ | refine c_region ?_ | refine c_seq ?_ | refine x_then ?_ | refine c_false rfl ?_ | refine c_skip ?_ | refine l_dec_f rfl rfl rfl rfl rfl (by first | omega | exact fun h => h rfl ) ?_ )
      refine r_call rfl rfl rfl (fun W hW => Sign_calls cv W (by omega)) ?_
      rw [← hcv, sgnA_t (c := codeV s) (by rw [unp_code g]; exact g), unp_code g, hcv]
      unfold vS
      repeat (first | refine l_val rfl rfl (by first | exact pureEval_ok rfl | exact v_load rfl (by repeat (first | exact List.Mem.head _ | apply List.Mem.tail)) rfl (by rfl) | exact v_eqS rfl rfl rfl rfl ) ?_ | refine l_nil ?_ | refine c_region ?_ | refine c_seq ?_ | refine x_then ?_ | refine r_alloc rfl rfl rfl (by first | exact aggL ) (fun _ => ?_) | refine r_store rfl rfl rfl rfl rfl rfl rfl (by repeat (first | exact Upd.head | apply Upd.tail)) (by rfl) ?_ | refine c_ret ?_ )
      exact x_ret rfl rfl (by repeat (first | exact Res.nil | (apply Res.tmp; rfl) | (apply Res.cell; rfl; exact (by repeat (first | exact List.Mem.head _ | apply List.Mem.tail)); rfl; rfl))) rfl (fun W hW => ⟨by simp [bare], hW.below⟩)
    · rw [codA_f g]
      unfold v2
      repeat (first | refine l_val rfl rfl (by first | exact pureEval_ok rfl | exact v_load rfl (by repeat (first | exact List.Mem.head _ | apply List.Mem.tail)) rfl (by rfl) | exact v_build rfl rfl (by rfl) ) ?_ | refine l_nil ?_ | refine c_region ?_ | refine c_seq ?_ | refine x_then ?_ | refine r_alloc rfl rfl rfl (by first | exact aggL ) (fun _ => ?_) | refine r_store rfl rfl rfl rfl rfl rfl rfl (by repeat (first | exact Upd.head | apply Upd.tail)) (by rfl) ?_ )
      refine r_call rfl rfl rfl (fun W hW => Code_calls (bare s) W) ?_
      rw [codA_f (s := bare s) g]
      unfold v2
      repeat (first | refine l_val rfl rfl (by first | exact pureEval_ok rfl ) ?_ | refine l_nil ?_ | refine c_region ?_ | refine c_seq ?_ | refine x_then ?_ | refine c_false rfl ?_ | refine c_skip ?_ )
      refine r_call rfl rfl rfl (fun W hW => Sign_calls 0 W (by decide)) ?_
      rw [c2e]
      unfold vS
      repeat (first | refine l_val rfl rfl (by first | exact pureEval_ok rfl | exact v_load rfl (by repeat (first | exact List.Mem.head _ | apply List.Mem.tail)) rfl (by rfl) ) ?_ | refine l_nil ?_ | refine c_region ?_ | refine c_seq ?_ | refine x_then ?_ | refine l_skip rfl rfl ?_ | refine r_alloc rfl rfl rfl (by first | exact aggL ) (fun _ => ?_) | refine r_store rfl rfl rfl rfl rfl rfl rfl (by repeat (first | exact Upd.head | apply Upd.tail)) (by rfl) ?_ | refine c_ret ?_ )
      exact x_ret rfl rfl (by repeat (first | exact Res.nil | (apply Res.tmp; rfl) | (apply Res.cell; rfl; exact (by repeat (first | exact List.Mem.head _ | apply List.Mem.tail)); rfl; rfl))) rfl (fun W hW => ⟨by simp, hW.below⟩)
  · rw [sgnA_f h]
    unfold vS
    repeat (first | refine l_val rfl rfl (by first | exact pureEval_ok rfl | exact v_load rfl (by repeat (first | exact List.Mem.head _ | apply List.Mem.tail)) rfl (by rfl) ) ?_ | refine l_nil ?_ | refine c_region ?_ | refine c_seq ?_ | refine x_then ?_ | refine r_alloc rfl rfl rfl (by first | exact aggL ) (fun _ => ?_) | refine r_store rfl rfl rfl rfl rfl rfl rfl (by repeat (first | exact Upd.head | apply Upd.tail)) (by rfl) ?_ | refine c_false rfl ?_ | refine c_skip ?_ )
    refine r_call rfl rfl rfl (fun W hW => Code_calls s W) ?_
    by_cases g : okS s = true
    · have hb := codeV_bd g
      rw [codA_t g]
      unfold v2
      repeat (first | refine l_val rfl rfl (by first | exact pureEval_ok rfl | exact v_load rfl (by repeat (first | exact List.Mem.head _ | apply List.Mem.tail)) rfl (by rfl) | exact v_build rfl rfl (by rfl) ) ?_ | refine l_nil ?_ | refine c_region ?_ | refine c_seq ?_ | refine x_then ?_ | refine r_alloc rfl rfl rfl (by first | exact aggL ) (fun _ => ?_) | refine r_store rfl rfl rfl rfl rfl rfl rfl (by repeat (first | exact Upd.head | apply Upd.tail)) (by rfl) ?_ )
      refine r_call rfl rfl rfl (fun W hW => Code_calls (bare s) W) ?_
      rw [codA_t (s := bare s) g, codeV_bare]
      unfold v2
      generalize hcv : codeV s = cv at *
      repeat (first | refine l_val rfl rfl (by first | exact pureEval_ok rfl ) ?_ | refine l_nil ?_ | refine c_region ?_ | refine c_seq ?_ | refine x_then ?_ | refine c_false rfl ?_ | refine c_skip ?_ | refine l_dec_f rfl rfl rfl rfl rfl (by first | omega ) ?_ )
      refine r_call rfl rfl rfl (fun W hW => Sign_calls cv W (by omega)) ?_
      rw [← hcv, sgnA_t (c := codeV s) (by rw [unp_code g]; exact g), unp_code g, hcv]
      unfold vS
      repeat (first | refine l_val rfl rfl (by first | exact pureEval_ok rfl | exact v_load rfl (by repeat (first | exact List.Mem.head _ | apply List.Mem.tail)) rfl (by rfl) | exact v_eqS rfl rfl rfl rfl ) ?_ | refine l_nil ?_ | refine c_region ?_ | refine c_seq ?_ | refine x_then ?_ | refine r_alloc rfl rfl rfl (by first | exact aggL ) (fun _ => ?_) | refine r_store rfl rfl rfl rfl rfl rfl rfl (by repeat (first | exact Upd.head | apply Upd.tail)) (by rfl) ?_ | refine c_ret ?_ )
      exact x_ret rfl rfl (by repeat (first | exact Res.nil | (apply Res.tmp; rfl) | (apply Res.cell; rfl; exact (by repeat (first | exact List.Mem.head _ | apply List.Mem.tail)); rfl; rfl))) rfl (fun W hW => ⟨by simp [bare], hW.below⟩)
    · rw [codA_f g]
      unfold v2
      repeat (first | refine l_val rfl rfl (by first | exact pureEval_ok rfl | exact v_load rfl (by repeat (first | exact List.Mem.head _ | apply List.Mem.tail)) rfl (by rfl) | exact v_build rfl rfl (by rfl) ) ?_ | refine l_nil ?_ | refine c_region ?_ | refine c_seq ?_ | refine x_then ?_ | refine r_alloc rfl rfl rfl (by first | exact aggL ) (fun _ => ?_) | refine r_store rfl rfl rfl rfl rfl rfl rfl (by repeat (first | exact Upd.head | apply Upd.tail)) (by rfl) ?_ )
      refine r_call rfl rfl rfl (fun W hW => Code_calls (bare s) W) ?_
      rw [codA_f (s := bare s) g]
      unfold v2
      repeat (first | refine l_val rfl rfl (by first | exact pureEval_ok rfl ) ?_ | refine l_nil ?_ | refine c_region ?_ | refine c_seq ?_ | refine x_then ?_ | refine c_false rfl ?_ | refine c_skip ?_ )
      refine r_call rfl rfl rfl (fun W hW => Sign_calls 0 W (by decide)) ?_
      rw [c2e]
      unfold vS
      repeat (first | refine l_val rfl rfl (by first | exact pureEval_ok rfl | exact v_load rfl (by repeat (first | exact List.Mem.head _ | apply List.Mem.tail)) rfl (by rfl) ) ?_ | refine l_nil ?_ | refine c_region ?_ | refine c_seq ?_ | refine x_then ?_ | refine l_skip rfl rfl ?_ | refine r_alloc rfl rfl rfl (by first | exact aggL ) (fun _ => ?_) | refine r_store rfl rfl rfl rfl rfl rfl rfl (by repeat (first | exact Upd.head | apply Upd.tail)) (by rfl) ?_ | refine c_ret ?_ )
      exact x_ret rfl rfl (by repeat (first | exact Res.nil | (apply Res.tmp; rfl) | (apply Res.cell; rfl; exact (by repeat (first | exact List.Mem.head _ | apply List.Mem.tail)); rfl; rfl))) rfl (fun W hW => ⟨by simp, hW.below⟩)
end R41
end Go.Proofs

/- Uncertain networks: the law Spec: Check and Of. -/
import Derived.Test.YtnmbglemgkopaaaCtR
import Derived.Test.YtnmbglemgkopaaaCtI
import Derived.Test.YtnmbglemgkopaaaCtW
import Derived.Test.YtnmbglemgkopaaaCtSan
set_option linter.unusedSectionVars false
set_option linter.unusedVariables false
set_option linter.unusedSimpArgs false
namespace Go.Proofs
open Go.RowKit Go.Kin Go.Kin.St Go.Kin.Ct
open R22 (lkE)
open R13 (Clk tpE psE spE)
namespace R23
theorem of_bd {c : Clk} : (ofL c).length ≤ 256 ∧ (ofC c).length ≤ 256 := by
  by_cases h : ofE c = 0
  · obtain ⟨h1, h2, h3⟩ := of_yes h
    have hk : c.k = 0 := Classical.byContradiction fun hk => by rw [ofE_chk hk] at h; exact hk h
    have hn : ¬ 63 < c.n := fun hn => by rw [ofE_big hk hn] at h; cases h
    have hm : ¬ 256 < (frL c.ts c.ps c.n.toNat ++ spL c.sp).length := fun hm => by rw [ofE_many hk hm] at h; cases h
    have hc := clL_le c.ts c.ps c.n.toNat
    rw [h2, h3]
    omega
  · obtain ⟨h1, h2, h3⟩ := of_no h
    rw [h2, h3]
    simp
theorem of_qq {c : Clk} {w w' : World} {e : Ending} (h : OfQ c w e w') : ∃ q : (Option Addr × Nat) × (Option Addr × Nat), e = .returned (.tuple ⟨[.agg ⟨[.int .i64 (ofN c), .slice q.1.1 (ofL c).length q.1.2, .slice q.2.1 (ofC c).length q.2.2]⟩, .int .i64 (ofE c)]⟩) ∧ Below w.heap.size w w' ∧ Fr w w' q.1.1 4 ((ofL c).map lkE) ∧ Fr w w' q.2.1 4 ((ofC c).map lkE) := by
  obtain ⟨A1, B1, ca, cb, h1, h2, h3, h4⟩ := h
  exact ⟨((A1, ca), (B1, cb)), h1, h4, h2, h3⟩
theorem tp_ne (l : List Go.Kin.Tm.Tp) : ∀ r ∈ l.map tpE, r ≠ [] := fun r hr => by obtain ⟨x, _, rfl⟩ := List.mem_map.1 hr; simp [tpE]
theorem ps_ne (l : List Go.Kin.Tm.Ps) : ∀ r ∈ l.map psE, r ≠ [] := fun r hr => by obtain ⟨x, _, rfl⟩ := List.mem_map.1 hr; simp [psE]
theorem sp_ne (l : List Go.Kin.Tm.Sp) : ∀ r ∈ l.map spE, r ≠ [] := fun r hr => by obtain ⟨x, _, rfl⟩ := List.mem_map.1 hr; simp [spE]
theorem rchk_at {n : Int} {A B : Option Addr} {ca cb : Nat} {L C : List Lk} {k : Int} (h : chkU n L C = k) (hl : L.length ≤ 1000) (hc : C.length ≤ 1000) {w : World} (h1 : Kin.At w A 4 (L.map lkE)) (h2 : Kin.At w B 4 (C.map lkE)) : Calls Try.prog 17 ⟨[.agg ⟨[.int .i64 n, .slice A L.length ca, .slice B C.length cb]⟩]⟩ w fun e w' => e = .returned (.int .i64 k) ∧ Below w.heap.size w w' := by
  have := rCheckU_calls ⟨n, A, ca, L, B, cb, C⟩ w ⟨h1, h2⟩ hl hc
  simp only [h] at this
  exact this
set_option maxRecDepth 100000 in
set_option maxHeartbeats 40000000 in
theorem law3 (u : Un) (c : Clk) (w : World) (hA : u.In w) (hI : c.In w) (hcb : c.ps.length ≤ c.cb) :
    Calls Try.prog 3 ⟨[.agg ⟨u.v⟩, .agg ⟨c.v⟩]⟩ w fun e w' => e = .returned (.bool true) ∧ Below w.heap.size w w' := by
  have hfe : ∀ (W : World), Calls Try.prog 13 ⟨[.agg ⟨u.v⟩]⟩ W fun e w' => e = .returned (.bool (fewB u.n u.L.length u.C.length)) ∧ Below W.heap.size W w' := fun W => Few_calls u W
  have h14 : ∀ (mem : List (Nat × Obj)) (W : World), c.Sm → SatW w (base w) noJ mem W → Calls Try.prog 14 ⟨[.agg ⟨c.v⟩]⟩ W (OfQ c W) := fun mem W hs hW => Of_calls c W hs (hI.sat hW) hcb
  have h15 : ∀ (W : World), c.Sm → c.In W → Calls Try.prog 15 ⟨[.agg ⟨c.v⟩]⟩ W (OfQ c W) := fun W hs hW => rOf_calls c W hs hW
  have hAl := hA.l
  have hAc := hA.c
  have hIa := hI.a
  have hIb := hI.b
  have hIc := hI.c
  have hin : ∀ W : World, Kin.At W c.A 3 (c.ts.map tpE) → Kin.At W c.B 4 (c.ps.map psE) → Kin.At W c.C 4 (c.sp.map spE) → c.In W := fun W h1 h2 h3 => ⟨h1, h2, h3⟩
  have hsm : c.ts.length ≤ 64 → c.ps.length ≤ 64 → c.sp.length ≤ 64 → c.Sm := fun h1 h2 h3 => ⟨by omega, by omega, by omega⟩
  have hbd := of_bd (c := c)
  obtain ⟨oN, hoN⟩ : ∃ x, ofN c = x := ⟨_, rfl⟩
  obtain ⟨oE, hoE⟩ : ∃ x, ofE c = x := ⟨_, rfl⟩
  obtain ⟨oL, hoL⟩ : ∃ x, ofL c = x := ⟨_, rfl⟩
  obtain ⟨oC, hoC⟩ : ∃ x, ofC c = x := ⟨_, rfl⟩
  have hq : ∀ {W W' : World} {e : Ending}, OfQ c W e W' → ∃ q : (Option Addr × Nat) × (Option Addr × Nat), e = .returned (.tuple ⟨[.agg ⟨[.int .i64 oN, .slice q.1.1 oL.length q.1.2, .slice q.2.1 oC.length q.2.2]⟩, .int .i64 oE]⟩) ∧ Below W.heap.size W W' ∧ Fr W W' q.1.1 4 (oL.map lkE) ∧ Fr W W' q.2.1 4 (oC.map lkE) := fun {W W' e} h => by
    have := of_qq h
    rw [hoN, hoE, hoL, hoC] at this
    exact this
  rw [hoL, hoC] at hbd
  clear hoN hoE hoL hoC
  obtain ⟨n, A, cap, L, B, cab, C⟩ := u
  obtain ⟨m, ts, ps, sp, cA, cB, cC, ca, cb, cc⟩ := c
  simp only [Un.v, Clk.v] at hfe h14 h15 hAl hAc hIa hIb hIc hin hsm hcb ⊢
  refine fun_enter Try.func3 rfl Try.ntmps3 rfl rfl (satW_nil w) ?_
  repeat (first | refine l_val rfl rfl (by first | exact pureEval_ok rfl  | fail) ?_ | refine l_nil ?_ | refine c_region ?_ | refine c_seq ?_ | refine x_then ?_ | refine r_box rfl rfl rfl rfl (fun _ => ?_)  | fail)
  refine r_call rfl rfl rfl (fun W hW => sane_calls W) ?_
  repeat (first | refine l_val rfl rfl (by first | exact pureEval_ok rfl | exact v_load rfl (by repeat (first | exact List.Mem.head _ | apply List.Mem.tail)) rfl (by rfl)  | fail) ?_ | refine l_nil ?_ | refine c_region ?_ | refine c_seq ?_ | refine x_then ?_ | refine c_false rfl ?_ | refine c_skip ?_  | fail)
  refine r_call rfl rfl rfl (fun W hW => hfe W) ?_
  cases hf : fewB n L.length C.length with
  | false =>
    repeat (first | refine l_val rfl rfl (by first | exact pureEval_ok rfl  | fail) ?_ | refine l_nil ?_ | refine c_region ?_ | refine c_seq ?_ | refine x_then ?_ | refine l_skip rfl rfl ?_ | refine c_true rfl ?_ | refine c_ret ?_ | refine x_then_ret ?_  | fail)
    exact x_ret rfl rfl (by repeat (first | exact Res.nil | (apply Res.tmp; rfl) | (apply Res.cell; rfl; exact (by repeat (first | exact List.Mem.head _ | apply List.Mem.tail)); rfl; rfl))) rfl (fun W hW => ⟨rfl, hW.below⟩)
  | true =>
    have hf1 := (few_yes hf).1
    have hf2 := (few_yes hf).2.1
    by_cases l1 : ts.length ≤ 64
    rotate_left
    · repeat (first | refine l_val rfl rfl (by first | exact pureEval_ok rfl | exact v_load rfl (by repeat (first | exact List.Mem.head _ | apply List.Mem.tail)) rfl (by rfl)  | fail) ?_ | refine l_nil ?_ | refine c_region ?_ | refine c_seq ?_ | refine x_then ?_ | refine l_skip rfl rfl ?_ | refine c_true rfl ?_ | refine c_ret ?_ | refine x_then_ret ?_ | refine l_dec_t rfl rfl rfl rfl rfl (by first | omega  | fail) ?_  | fail)
      exact x_ret rfl rfl (by repeat (first | exact Res.nil | (apply Res.tmp; rfl) | (apply Res.cell; rfl; exact (by repeat (first | exact List.Mem.head _ | apply List.Mem.tail)); rfl; rfl))) rfl (fun W hW => ⟨rfl, hW.below⟩)
    by_cases l2 : ps.length ≤ 64
    rotate_left
    · repeat (first | refine l_val rfl rfl (by first | exact pureEval_ok rfl | exact v_load rfl (by repeat (first | exact List.Mem.head _ | apply List.Mem.tail)) rfl (by rfl)  | fail) ?_ | refine l_nil ?_ | refine c_region ?_ | refine c_seq ?_ | refine x_then ?_ | refine l_skip rfl rfl ?_ | refine c_true rfl ?_ | refine c_ret ?_ | refine x_then_ret ?_ | refine l_dec_t rfl rfl rfl rfl rfl (by first | omega  | fail) ?_ | refine l_dec_f rfl rfl rfl rfl rfl (by first | omega  | fail) ?_  | fail)
      exact x_ret rfl rfl (by repeat (first | exact Res.nil | (apply Res.tmp; rfl) | (apply Res.cell; rfl; exact (by repeat (first | exact List.Mem.head _ | apply List.Mem.tail)); rfl; rfl))) rfl (fun W hW => ⟨rfl, hW.below⟩)
    by_cases l3 : sp.length ≤ 64
    rotate_left
    · repeat (first | refine l_val rfl rfl (by first | exact pureEval_ok rfl | exact v_load rfl (by repeat (first | exact List.Mem.head _ | apply List.Mem.tail)) rfl (by rfl)  | fail) ?_ | refine l_nil ?_ | refine c_region ?_ | refine c_seq ?_ | refine x_then ?_ | refine c_dec_t rfl (by first | omega  | fail) ?_ | refine c_ret ?_ | refine x_then_ret ?_ | refine l_dec_f rfl rfl rfl rfl rfl (by first | omega  | fail) ?_  | fail)
      exact x_ret rfl rfl (by repeat (first | exact Res.nil | (apply Res.tmp; rfl) | (apply Res.cell; rfl; exact (by repeat (first | exact List.Mem.head _ | apply List.Mem.tail)); rfl; rfl))) rfl (fun W hW => ⟨rfl, hW.below⟩)
    have hs := hsm l1 l2 l3
    clear hsm
    repeat (first | refine l_val rfl rfl (by first | exact pureEval_ok rfl | exact v_load rfl (by repeat (first | exact List.Mem.head _ | apply List.Mem.tail)) rfl (by rfl)  | fail) ?_ | refine l_nil ?_ | refine c_region ?_ | refine c_seq ?_ | refine x_then ?_ | refine c_dec_f rfl (by first | omega | exact fun h => h rfl  | fail) ?_ | refine c_skip ?_ | refine l_dec_f rfl rfl rfl rfl rfl (by first | omega | exact fun h => h rfl  | fail) ?_  | fail)
    refine l_callF (ι := (Option Addr × Nat) × (Option Addr × Nat)) (v := fun q => .tuple ⟨[.agg ⟨[.int .i64 oN, .slice q.1.1 oL.length q.1.2, .slice q.2.1 oC.length q.2.2]⟩, .int .i64 oE]⟩) (fun q W W' => Fr W W' q.1.1 4 (oL.map lkE) ∧ Fr W W' q.2.1 4 (oC.map lkE)) rfl rfl rfl (MSub.refl _) (fun W hW => (h14 _ W hs hW).mono fun e W' h => hq h) ?_
    rintro ⟨⟨A1, c1⟩, ⟨A2, c2⟩⟩ W W3 hW hB3 hW3 ⟨q1, q2⟩
    refine l_gen fun D3 hD3 => ?_
    simp only at q1 q2 ⊢
    have hS3 := hW3.same
    have hD : ∀ k, base w k → D3 k := by rw [hD3]; exact hW3.allBut (MSub.refl _)
    have hbel3 : ∀ {mem : List (Nat × Obj)} {W' : World}, SatW W3 D3 noJ mem W' → Below w.heap.size w W' := fun {mem W'} hm => (hS3.trans (hm.same.mono hD)).below (Nat.le_refl _) fun _ hk => hk
    have hbs : Same (base w) w W3 := hS3
    have hbD : ∀ k, base w k → D3 k := hD
    have a1 : Ar W3 D3 A1 4 (oL.map lkE) := by rw [hD3]; exact q1.ar (lk_ne _) (SatW.lts hW)
    have a2 : Ar W3 D3 A2 4 (oC.map lkE) := by rw [hD3]; exact q2.ar (lk_ne _) (SatW.lts hW)
    have a3 : Ar W3 D3 A 4 (L.map lkE) := Ar.of hAl (lk_ne _) hS3 hD
    have a4 : Ar W3 D3 B 4 (C.map lkE) := Ar.of hAc (lk_ne _) hS3 hD
    have a5 : Ar W3 D3 cA 3 (ts.map tpE) := Ar.of hIa (tp_ne _) hS3 hD
    have a6 : Ar W3 D3 cB 4 (ps.map psE) := Ar.of hIb (ps_ne _) hS3 hD
    have a7 : Ar W3 D3 cC 4 (sp.map spE) := Ar.of hIc (sp_ne _) hS3 hD
    clear q1 q2 hW hB3 hW3 hD3 hS3 hD
    repeat (first | refine l_val rfl rfl (by first | exact pureEval_ok rfl | exact v_load rfl (by repeat (first | exact List.Mem.head _ | apply List.Mem.tail)) rfl (by rfl)  | fail) ?_ | refine l_nil ?_ | refine c_region ?_ | refine c_seq ?_ | refine x_then ?_ | refine r_alloc rfl rfl rfl (by first | exact aggL  | fail) (fun _ => ?_) | refine r_store rfl rfl rfl rfl rfl rfl rfl (by repeat (first | exact Upd.head | apply Upd.tail)) (by rfl) ?_  | fail)
    refine l_callF (ι := (Option Addr × Nat) × (Option Addr × Nat)) (v := fun q => .tuple ⟨[.agg ⟨[.int .i64 oN, .slice q.1.1 oL.length q.1.2, .slice q.2.1 oC.length q.2.2]⟩, .int .i64 oE]⟩) (fun q W W' => Fr W W' q.1.1 4 (oL.map lkE) ∧ Fr W W' q.2.1 4 (oC.map lkE)) rfl rfl rfl (MSub.refl _) (fun W hW => (h15 W hs (hin W (a5.at hW) (a6.at hW) (a7.at hW))).mono fun e W' h => hq h) ?_
    rintro ⟨⟨A3, c3⟩, ⟨A4, c4⟩⟩ W W4 hW hB4 hW4 ⟨q1, q2⟩
    refine l_gen fun D4 hD4 => ?_
    simp only at q1 q2 ⊢
    have hS4 := hW4.same
    have hD : ∀ k, D3 k → D4 k := by rw [hD4]; exact hW4.allBut (MSub.refl _)
    have hbel4 : ∀ {mem : List (Nat × Obj)} {W' : World}, SatW W4 D4 noJ mem W' → Below w.heap.size w W' := fun {mem W'} hm => (hbs.trans ((hS4.trans (hm.same.mono hD)).mono hbD)).below (Nat.le_refl _) fun _ hk => hk
    have b1 : Ar W4 D4 A3 4 (oL.map lkE) := by rw [hD4]; exact q1.ar (lk_ne _) (SatW.lts hW)
    have b2 : Ar W4 D4 A4 4 (oC.map lkE) := by rw [hD4]; exact q2.ar (lk_ne _) (SatW.lts hW)
    replace a1 := a1.move hS4 hD
    replace a2 := a2.move hS4 hD
    replace a3 := a3.move hS4 hD
    replace a4 := a4.move hS4 hD
    clear q1 q2 hW hB4 hW4 hD4 hS4 hD a5 a6 a7
    obtain ⟨kk, hkk⟩ : ∃ k, chkU n L C = k := ⟨_, rfl⟩
    repeat (first | refine l_val rfl rfl (by first | exact pureEval_ok rfl  | fail) ?_ | refine l_nil ?_ | refine c_seq ?_ | refine x_then ?_ | refine r_alloc rfl rfl rfl (by first | exact aggL  | fail) (fun _ => ?_) | refine r_store rfl rfl rfl rfl rfl rfl rfl (by repeat (first | exact Upd.head | apply Upd.tail)) (by rfl) ?_ | refine c_reads rfl (by decide +kernel) ?_ | refine q_val rfl rfl (by first | exact v_load rfl (by repeat (first | exact List.Mem.head _ | apply List.Mem.tail)) rfl (by rfl)  | fail) ?_  | fail)
    refine q_call rfl rfl rfl (fun W hW => chk_at hkk (by omega) (a3.at hW) (a4.at hW)) ?_
    repeat (first | refine q_val rfl rfl (by first | exact v_load rfl (by repeat (first | exact List.Mem.head _ | apply List.Mem.tail)) rfl (by rfl)  | fail) ?_  | fail)
    refine q_call rfl rfl rfl (fun W hW => rchk_at hkk (by omega) (by omega) (a3.at hW) (a4.at hW)) ?_
    repeat (first | refine q_val rfl rfl (by first | exact pureEval_ok rfl | exact v_load rfl (by repeat (first | exact List.Mem.head _ | apply List.Mem.tail)) rfl (by rfl)  | fail) ?_ | refine q_dec_t rfl rfl rfl rfl (by first | omega  | fail) ?_  | fail)
    refine q_call rfl rfl rfl (fun W hW => sameU_calls A1 A3 A2 A4 c1 c3 c2 c4 oN oL oC W (a1.at hW) (b1.at hW) (a2.at hW) (b2.at hW) (by omega) (by omega)) ?_
    repeat (first | refine x_then ?_ | refine c_ret ?_ | refine q_val rfl rfl (by first | exact pureEval_ok rfl  | fail) ?_ | refine q_nil ?_  | fail)
    exact x_ret rfl rfl (by repeat (first | exact Res.nil | (apply Res.tmp; rfl) | (apply Res.cell; rfl; exact (by repeat (first | exact List.Mem.head _ | apply List.Mem.tail)); rfl; rfl))) rfl (fun W hW => ⟨rfl, hbel4 hW⟩)
end R23
end Go.Proofs

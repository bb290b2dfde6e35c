/- Uncertain networks: the law Clock. -/
import Derived.Test.YtnmbglemgkopaaaCtClk
import Derived.Test.YtnmbglemgkopaaaCtL3
import Derived.Test.YtnmbglemgkopaaaCtN
import Derived.Test.YtnmbglemgkopaaaTpV
import Derived.Test.YtnmbglemgkopaaaEng31
set_option linter.unusedSectionVars false
set_option linter.unusedVariables false
set_option linter.unusedSimpArgs false
namespace Go.Proofs
open Go.RowKit Go.Kin Go.Kin.St Go.Kin.Ct Go.Kin.Tm
open R22 (lkE mtV mtB mtE Meets_calls)
open R13 (Clk tpE psE spE v2 lnA lgE tkA)
namespace R23
/-- the times so far -/
def tS (ts : List Tp) (ps : List Ps) (l : List Int) (i : Nat) : Nat → Int := fun x => if x ≤ i then bS ts ps l x else 0
theorem tS_zero {ts : List Tp} {ps : List Ps} {l : List Int} : (fun _ => (0 : Int)) = tS ts ps l 0 := by
  funext x
  unfold tS
  split
  · rename_i h
    have : x = 0 := by omega
    subst this; rfl
  · rfl
theorem tS_succ {ts : List Tp} {ps : List Ps} {l : List Int} {i : Nat} : iset (tS ts ps l i) (i + 1) (bS ts ps l (i + 1)) = tS ts ps l (i + 1) := by
  funext x
  unfold iset tS
  by_cases h : x = i + 1
  · subst h; rw [if_pos rfl, if_pos (Nat.le_refl _)]
  · rw [if_neg h]
    by_cases h2 : x ≤ i
    · rw [if_pos h2, if_pos (by omega)]
    · rw [if_neg h2, if_neg (by omega)]
theorem tS_end {ts : List Tp} {ps : List Ps} {l : List Int} {N : Nat} : ivec (N + 1) (tS ts ps l N) = flatI (tB ts ps l N) := by
  unfold tB
  rw [flatI_ivec]
  unfold ivec vec
  apply List.map_congr_left
  intro x hx
  unfold tS
  rw [if_pos (by have := List.mem_range.1 hx; omega)]
theorem int_rows (l : List Int) : (l.map inE).flatten.length = l.length * 1 := flatI_len l
theorem gSl_at {l : List Int} {b c k' : Nat} {A' : Option Addr} {r : List Value} (hA' : gSl l b c = .slice A' l.length k') {w0 : World} {D : Nat → Prop} {J : (Nat → Prop) → World → Prop} {mem : List (Nat × Obj)} {W : World} (hW : SatW w0 D J mem W) (h : ∀ p ∈ gM inE 3 l b r, p ∈ mem) : Kin.At W A' 1 (l.map inE) := by
  cases l with
  | nil => exact at_nil0 _
  | cons x l =>
    have : A' = some ⟨b, 0, none⟩ := by injection hA' with h1; exact h1.symm
    subst this
    exact SatW.rows (rest := r) hW (h _ List.mem_cons_self) rfl (in_len _)
/-- where the loop is -/
structure ClS where
  i : Nat
  j : Nat
  b : Nat
  c : Nat
  r : List Value
set_option maxRecDepth 100000 in
set_option maxHeartbeats 40000000 in
theorem law11 (c : Clk) (P : Option Addr) (cp : Nat) (l : List Int) (w : World) (hI : c.In w) (hcb : c.ps.length ≤ c.cb) (hP : Kin.At w P 1 (l.map inE)) (hll : l.length ≤ 9223372036854775807) :
    Calls Try.prog 11 ⟨[.agg ⟨c.v⟩, .slice P l.length cp]⟩ w fun e w' => e = .returned (.bool true) ∧ Below w.heap.size w w' := by
  have h14 : ∀ (mem : List (Nat × Obj)) (W : World), c.Sm → SatW w (base w) noJ mem W → Calls Try.prog 14 ⟨[.agg ⟨c.v⟩]⟩ W (OfQ c W) := fun mem W hs hW => Of_calls c W hs (hI.sat hW) hcb
  have h32 : ∀ (W : World), c.Sm → c.In W → Kin.At W P 1 (l.map inE) → Calls Try.prog 32 ⟨[.agg ⟨c.v⟩, .slice P l.length cp]⟩ W fun e w' => e = .returned (v2 (lnA c l)) ∧ Below W.heap.size W w' := fun W hs hW hPW => R13.Length_calls c P cp l W hs hll hW hPW
  have h33 : ∀ (i : Int) (W : World), c.Sm → c.In W → Calls Try.prog 33 ⟨[.agg ⟨c.v⟩, .int .i64 i]⟩ W fun e w' => e = .returned (v2 (tkA c i)) ∧ Below W.heap.size W w' := fun i W hs hW => R13.Ticks_calls c i W hs hW
  have hIa := hI.a
  have hIb := hI.b
  have hIc := hI.c
  have hin : ∀ W : World, Kin.At W c.A 3 (c.ts.map tpE) → Kin.At W c.B 4 (c.ps.map psE) → Kin.At W c.C 4 (c.sp.map spE) → c.In W := fun W h1 h2 h3 => ⟨h1, h2, h3⟩
  have hsm : c.ts.length ≤ 64 → c.ps.length ≤ 64 → c.sp.length ≤ 64 → c.Sm := fun h1 h2 h3 => ⟨by omega, by omega, by omega⟩
  obtain ⟨oE, hoE⟩ : ∃ x, ofE c = x := ⟨_, rfl⟩
  have hqq : ∀ {W W' : World} {e : Ending}, OfQ c W e W' → _ := fun {W W' e} h => of_qq h
  obtain ⟨m, ts, ps, sp, cA, cB, cC, ca, cb, cc⟩ := c
  simp only [Clk.v] at h14 h32 h33 hIa hIb hIc hin hsm hcb hqq ⊢
  refine fun_enter Try.func11 rfl Try.ntmps11 rfl rfl (satW_nil w) ?_
  repeat (first | refine l_val rfl rfl (by first | exact pureEval_ok rfl  | fail) ?_ | refine l_nil ?_ | refine c_region ?_ | refine c_seq ?_ | refine x_then ?_ | refine r_box rfl rfl rfl rfl (fun _ => ?_)  | fail)
  refine r_call rfl rfl rfl (fun W hW => sane_calls W) ?_
  by_cases l1 : ts.length ≤ 64
  rotate_left
  · repeat (first | refine l_val rfl rfl (by first | exact pureEval_ok rfl | exact v_load rfl (by repeat (first | exact List.Mem.head _ | apply List.Mem.tail)) rfl (by rfl)  | fail) ?_ | refine l_nil ?_ | refine c_region ?_ | refine c_seq ?_ | refine x_then ?_ | refine l_skip rfl rfl ?_ | refine c_true rfl ?_ | refine c_false rfl ?_ | refine c_skip ?_ | refine c_ret ?_ | refine x_then_ret ?_ | refine l_dec_t rfl rfl rfl rfl rfl (by first | omega  | fail) ?_  | fail)
    exact x_ret rfl rfl (by repeat (first | exact Res.nil | (apply Res.tmp; rfl) | (apply Res.cell; rfl; exact (by repeat (first | exact List.Mem.head _ | apply List.Mem.tail)); rfl; rfl))) rfl (fun W hW => ⟨rfl, hW.below⟩)
  by_cases l2 : ps.length ≤ 64
  rotate_left
  · repeat (first | refine l_val rfl rfl (by first | exact pureEval_ok rfl | exact v_load rfl (by repeat (first | exact List.Mem.head _ | apply List.Mem.tail)) rfl (by rfl)  | fail) ?_ | refine l_nil ?_ | refine c_region ?_ | refine c_seq ?_ | refine x_then ?_ | refine l_skip rfl rfl ?_ | refine c_true rfl ?_ | refine c_false rfl ?_ | refine c_skip ?_ | refine c_ret ?_ | refine x_then_ret ?_ | refine l_dec_t rfl rfl rfl rfl rfl (by first | omega  | fail) ?_ | refine l_dec_f rfl rfl rfl rfl rfl (by first | omega  | fail) ?_  | fail)
    exact x_ret rfl rfl (by repeat (first | exact Res.nil | (apply Res.tmp; rfl) | (apply Res.cell; rfl; exact (by repeat (first | exact List.Mem.head _ | apply List.Mem.tail)); rfl; rfl))) rfl (fun W hW => ⟨rfl, hW.below⟩)
  by_cases l3 : sp.length ≤ 64
  rotate_left
  · repeat (first | refine l_val rfl rfl (by first | exact pureEval_ok rfl | exact v_load rfl (by repeat (first | exact List.Mem.head _ | apply List.Mem.tail)) rfl (by rfl)  | fail) ?_ | refine l_nil ?_ | refine c_region ?_ | refine c_seq ?_ | refine x_then ?_ | refine c_false rfl ?_ | refine c_dec_t rfl (by first | omega  | fail) ?_ | refine c_skip ?_ | refine c_ret ?_ | refine x_then_ret ?_ | refine l_dec_f rfl rfl rfl rfl rfl (by first | omega  | fail) ?_  | fail)
    exact x_ret rfl rfl (by repeat (first | exact Res.nil | (apply Res.tmp; rfl) | (apply Res.cell; rfl; exact (by repeat (first | exact List.Mem.head _ | apply List.Mem.tail)); rfl; rfl))) rfl (fun W hW => ⟨rfl, hW.below⟩)
  have hs := hsm l1 l2 l3
  clear hsm
  by_cases hE : oE = 0
  rotate_left
  · obtain ⟨oN, hoN⟩ : ∃ x, ofN ⟨m, ts, ps, sp, cA, cB, cC, ca, cb, cc⟩ = x := ⟨_, rfl⟩
    obtain ⟨oL, hoL⟩ : ∃ x, ofL ⟨m, ts, ps, sp, cA, cB, cC, ca, cb, cc⟩ = x := ⟨_, rfl⟩
    obtain ⟨oC, hoC⟩ : ∃ x, ofC ⟨m, ts, ps, sp, cA, cB, cC, ca, cb, cc⟩ = x := ⟨_, rfl⟩
    rw [hoN, hoL, hoC, hoE] at hqq
    obtain ⟨q1, q2⟩ : ∃ p : Int × Int, lnA ⟨m, ts, ps, sp, cA, cB, cC, ca, cb, cc⟩ l = p := ⟨_, rfl⟩
    obtain ⟨r1, r2⟩ := q1
    rw [q2] at h32
    unfold v2 at h32
    repeat (first | refine l_val rfl rfl (by first | exact pureEval_ok rfl | exact v_load rfl (by repeat (first | exact List.Mem.head _ | apply List.Mem.tail)) rfl (by rfl)  | fail) ?_ | refine l_nil ?_ | refine c_region ?_ | refine c_seq ?_ | refine x_then ?_ | refine c_false rfl ?_ | refine c_dec_f rfl (by first | omega  | fail) ?_ | refine c_skip ?_ | refine l_dec_f rfl rfl rfl rfl rfl (by first | omega  | fail) ?_  | fail)
    refine r_callI (ι := (Option Addr × Nat) × (Option Addr × Nat)) (v := fun q => .tuple ⟨[.agg ⟨[.int .i64 oN, .slice q.1.1 oL.length q.1.2, .slice q.2.1 oC.length q.2.2]⟩, .int .i64 oE]⟩) rfl rfl rfl (fun W hW => (h14 _ W hs hW).mono fun e W' h => by obtain ⟨q, g1, g2, -⟩ := hqq h; exact ⟨q, g1, g2⟩) ?_
    rintro ⟨⟨A1, c1⟩, ⟨A2, c2⟩⟩
    simp only
    repeat (first | refine l_val rfl rfl (by first | exact pureEval_ok rfl | exact v_load rfl (by repeat (first | exact List.Mem.head _ | apply List.Mem.tail)) rfl (by rfl)  | fail) ?_ | refine l_nil ?_ | refine c_region ?_ | refine c_seq ?_ | refine x_then ?_ | refine r_alloc rfl rfl rfl (by first | exact aggL  | fail) (fun _ => ?_) | refine r_store rfl rfl rfl rfl rfl rfl rfl (by repeat (first | exact Upd.head | apply Upd.tail)) (by rfl) ?_  | fail)
    refine r_call rfl rfl rfl (fun W hW => h32 W hs (hin W (hIa.sat hW) (hIb.sat hW) (hIc.sat hW)) (hP.sat hW)) ?_
    repeat (first | refine l_val rfl rfl (by first | exact pureEval_ok rfl  | fail) ?_ | refine l_nil ?_ | refine c_region ?_ | refine c_seq ?_ | refine x_then ?_ | refine l_skip rfl rfl ?_ | refine c_true rfl ?_ | refine c_ret ?_ | refine x_then_ret ?_ | refine l_dec_t rfl rfl rfl rfl rfl (by first | omega  | fail) ?_  | fail)
    exact x_ret rfl rfl (by repeat (first | exact Res.nil | (apply Res.tmp; rfl) | (apply Res.cell; rfl; exact (by repeat (first | exact List.Mem.head _ | apply List.Mem.tail)); rfl; rfl))) rfl (fun W hW => ⟨rfl, hW.below⟩)
  subst hE
  obtain ⟨y1, y2, y3⟩ := of_yes hoE
  have hk : Clk.k ⟨m, ts, ps, sp, cA, cB, cC, ca, cb, cc⟩ = 0 := Classical.byContradiction fun hk => by rw [ofE_chk hk] at hoE; exact hk hoE
  have hn : ¬ 63 < m := fun hn => by rw [ofE_big hk hn] at hoE; cases hoE
  have hmm : ¬ 256 < (frL ts ps m.toNat ++ spL sp).length := fun hm => by rw [ofE_many hk hm] at hoE; cases hoE
  have hok : Ok m ts ps sp := Tm.chk_ok.1 hk
  have hn1 := hok.n1
  obtain ⟨N, rfl⟩ : ∃ N : Nat, m = N := ⟨m.toNat, by omega⟩
  simp only [Int.toNat_natCast] at y2 y3 hmm
  rw [y1, y2, y3, hoE] at hqq
  have e1 : ((⟨N, ts, ps, sp, cA, cB, cC, ca, cb, cc⟩ : Clk).n + 1) = ((N + 1 : Nat) : Int) := rfl
  rw [e1] at hqq
  obtain ⟨oL, hoL⟩ : ∃ x, frL ts ps N ++ spL sp = x := ⟨_, rfl⟩
  obtain ⟨oC, hoC⟩ : ∃ x, clL ts ps N = x := ⟨_, rfl⟩
  rw [hoL, hoC] at hqq
  rw [hoL] at hmm
  have hfin : lensB ps l = true → PlayOK ((N + 1 : Nat) : Int) oL oC (tB ts ps l N) (dL ts ps l N) ∧ plL oC (N + 1) (tB ts ps l N) (dL ts ps l N) = tB ts ps l N ∧ mtB ((N + 1 : Nat) : Int) oL (tB ts ps l N) = sp.all (spB (bS ts ps l)) ∧ mtE ((N + 1 : Nat) : Int) oL (tB ts ps l N) = 0 := fun hl => by
    rw [← hoL, ← hoC]
    have h1 := clk_play hok hl (by omega) (by rw [hoL]; omega)
    have h2 := clk_met hok hl (by omega) (by rw [hoL]; omega)
    exact ⟨h1.1, h1.2, h2.1, h2.2⟩
  have hck : chkU ((N + 1 : Nat) : Int) oL oC = 0 := by
    rw [← hoL, ← hoC]
    exact clk_chk hok (by omega) (by rw [hoL]; omega)
  repeat (first | refine l_val rfl rfl (by first | exact pureEval_ok rfl | exact v_load rfl (by repeat (first | exact List.Mem.head _ | apply List.Mem.tail)) rfl (by rfl)  | fail) ?_ | refine l_nil ?_ | refine c_region ?_ | refine c_seq ?_ | refine x_then ?_ | refine c_false rfl ?_ | refine c_dec_f rfl (by first | omega  | fail) ?_ | refine c_skip ?_ | refine l_dec_f rfl rfl rfl rfl rfl (by first | omega  | fail) ?_  | fail)
  refine l_callF (ι := (Option Addr × Nat) × (Option Addr × Nat)) (v := fun q => .tuple ⟨[.agg ⟨[.int .i64 ((N + 1 : Nat) : Int), .slice q.1.1 oL.length q.1.2, .slice q.2.1 oC.length q.2.2]⟩, .int .i64 0]⟩) (fun q W W' => Fr W W' q.1.1 4 (oL.map lkE) ∧ Fr W W' q.2.1 4 (oC.map lkE)) rfl rfl rfl (MSub.refl _) (fun W hW => (h14 _ W hs hW).mono fun e W' h => hqq h) ?_
  rintro ⟨⟨A1, c1⟩, ⟨A2, c2⟩⟩ W W3 hW hB3 hW3 ⟨q1, q2⟩
  refine l_gen fun D3 hD3 => ?_
  simp only at q1 q2 ⊢
  have hS3 := hW3.same
  have hD : ∀ k, base w k → D3 k := by rw [hD3]; exact hW3.allBut (MSub.refl _)
  have hbel : ∀ {mem : List (Nat × Obj)} {W' : World}, SatW W3 D3 noJ mem W' → Below w.heap.size w W' := fun {mem W'} hm => (hS3.trans (hm.same.mono hD)).below (Nat.le_refl _) fun _ hk => hk
  have a1 : Ar W3 D3 A1 4 (oL.map lkE) := by rw [hD3]; exact q1.ar (lk_ne _) (SatW.lts hW)
  have a2 : Ar W3 D3 A2 4 (oC.map lkE) := by rw [hD3]; exact q2.ar (lk_ne _) (SatW.lts hW)
  have a5 : Ar W3 D3 cA 3 (ts.map tpE) := Ar.of hIa (tp_ne _) hS3 hD
  have a6 : Ar W3 D3 cB 4 (ps.map psE) := Ar.of hIb (ps_ne _) hS3 hD
  have a7 : Ar W3 D3 cC 4 (sp.map spE) := Ar.of hIc (sp_ne _) hS3 hD
  have a8 : Ar W3 D3 P 1 (l.map inE) := Ar.of hP (inE_ne _) hS3 hD
  clear q1 q2 hW hB3 hW3 hD3 hS3 hD h14 hqq hIa hIb hIc hI hP
  repeat (first | refine l_val rfl rfl (by first | exact pureEval_ok rfl | exact v_load rfl (by repeat (first | exact List.Mem.head _ | apply List.Mem.tail)) rfl (by rfl)  | fail) ?_ | refine l_nil ?_ | refine c_region ?_ | refine c_seq ?_ | refine x_then ?_ | refine r_alloc rfl rfl rfl (by first | exact aggL  | fail) (fun _ => ?_) | refine r_store rfl rfl rfl rfl rfl rfl rfl (by repeat (first | exact Upd.head | apply Upd.tail)) (by rfl) ?_  | fail)
  by_cases hl : lensB ps l = true
  rotate_left
  · have hv : lnA ⟨N, ts, ps, sp, cA, cB, cC, ca, cb, cc⟩ l = (0, 1) := by
      unfold lnA
      rw [R13.lgE_bad hk hl]
      rfl
    rw [hv] at h32
    refine r_call rfl rfl rfl (fun W hW => h32 W hs (hin W (a5.at hW) (a6.at hW) (a7.at hW)) (a8.at hW)) ?_
    unfold v2
    repeat (first | refine l_val rfl rfl (by first | exact pureEval_ok rfl  | fail) ?_ | refine l_nil ?_ | refine c_region ?_ | refine c_seq ?_ | refine x_then ?_ | refine c_true rfl ?_ | refine c_ret ?_ | refine x_then_ret ?_  | fail)
    exact x_ret rfl rfl (by repeat (first | exact Res.nil | (apply Res.tmp; rfl) | (apply Res.cell; rfl; exact (by repeat (first | exact List.Mem.head _ | apply List.Mem.tail)); rfl; rfl))) rfl (fun W hW => ⟨rfl, hbel hW⟩)
  obtain ⟨f1, f2, f3, f4⟩ := hfin hl
  have hv : lnA ⟨N, ts, ps, sp, cA, cB, cC, ca, cb, cc⟩ l = (bS ts ps l N, 0) := by
    unfold lnA
    rw [R13.lgE_yes hk hl]
    rfl
  rw [hv] at h32
  have hpl := (lensB_iff.1 hl).1
  refine r_call rfl rfl rfl (fun W hW => h32 W hs (hin W (a5.at hW) (a6.at hW) (a7.at hW)) (a8.at hW)) ?_
  dsimp only [v2]
  repeat (first | refine l_val rfl rfl (by first | exact v_add rfl rfl (by omega) (by omega) | exact pureEval_ok rfl | exact v_load rfl (by repeat (first | exact List.Mem.head _ | apply List.Mem.tail)) rfl (by rfl)  | fail) ?_ | refine l_nil ?_ | refine c_region ?_ | refine c_seq ?_ | refine x_then ?_ | refine c_false rfl ?_ | refine c_skip ?_ | refine l_dec_f rfl rfl rfl rfl rfl (by first | omega  | fail) ?_  | fail)
  refine r_call rfl rfl rfl (fun W hW => chk_at hck (by omega) (a1.at hW) (a2.at hW)) ?_
  repeat ((fail_if_success refine c_probe (id := 15) ?_); (fail_if_success refine c_probe1 (id := 15) ?_); first | refine l_val rfl rfl (by first | exact pureEval_ok rfl | exact v_load rfl (by repeat (first | exact List.Mem.head _ | apply List.Mem.tail)) rfl (by rfl)  | fail) ?_ | refine l_nil ?_ | refine c_region ?_ | refine c_seq ?_ | refine x_then ?_ | refine r_make rfl rfl rfl rfl rfl rfl (by first | rfl  | fail) (by omega) (by omega) rfl rfl (by first | exact flat_int  | fail) (fun _ => ?_) | refine c_dec_f rfl (by first | omega  | fail) ?_ | refine c_block ?_ | refine c_skip ?_  | fail)
  rename_i bc bu bt
  rw [tS_zero (ts := ts) (ps := ps) (l := l)]
  refine c_loop (ι := ClS) (fun s => s.i ≤ N ∧ Tm.At ps s.j s.i ∧ gOK inE 1 (dL ts ps l s.i) s.c s.r) (fun s => [(1, .slice P l.length cp), (2, .pointer (some ⟨bc, 0, none⟩)), (5, .pointer (some ⟨bu, 0, none⟩)), (7, .int .i64 (bS ts ps l N)), (9, .slice (some ⟨bt, 0, none⟩) (N + 1) (N + 1)), (10, gSl (dL ts ps l s.i) s.b s.c), (11, .int .i64 (bS ts ps l s.i)), (12, .int .i64 s.j), (83, .int .i64 N), (84, .int .i64 s.i)])
    (fun s => (bt, .cells ⟨ivec (N + 1) (tS ts ps l s.i)⟩ 3 (0, 0)) :: (bu, .cells ⟨[.int .i64 ((N + 1 : Nat) : Int), .slice A1 oL.length c1, .slice A2 oC.length c2]⟩ 24 (0, 0)) :: (bc, .cells ⟨[.int .i64 N, .slice cA ts.length ca, .slice cB ps.length cb, .slice cC sp.length cc]⟩ 28 (0, 0)) :: gM inE 3 (dL ts ps l s.i) s.b s.r) (fun s => N - s.i) ⟨0, 0, 0, 0, []⟩ ⟨Nat.zero_le _, at_zero hok.ascP, fun h => absurd rfl h⟩ (by repeat (first | exact EnvSub.nil | refine EnvSub.cons rfl (by first | rfl | (congr 1; done) | (exact congrArg (Value.int _) (by omega)) | (simp; done)) ?_)) (by repeat (first | exact MSub.nil | refine MSub.keep (by first | rfl | assumption) ?_ | refine MSub.drop ?_ | exact MSub.refl _)) ?_
  rintro ⟨i, j, b, cd, r⟩ ⟨hi, hat, hgr⟩
  simp only at hi hat hgr ⊢
  by_cases hlt : i < N
  · have htk := R13.tkA_in (c := ⟨N, ts, ps, sp, cA, cB, cC, ca, cb, cc⟩) (bar := i) hk ⟨by omega, by show (i : Int) ≤ (N : Int) - 1; omega⟩
    have h33i := fun (W : World) (hW : _) => h33 i W hs hW
    rw [htk] at h33i
    have hbars := hok.bars i (by omega) (by omega)
    have hds := dL_succ (ts := ts) (ps := ps) (l := l) i
    have hsb := bS_bd hok hl (k := i) (by omega)
    have hsb1 := bS_bd hok hl (k := i + 1) (by omega)
    have hss := bS_succ (ts := ts) (ps := ps) (l := l) i
    have hdl := dL_len (ts := ts) (ps := ps) (l := l) i
    have hcl := clL_le ts ps i
    obtain ⟨sv, hsv⟩ : ∃ x, bS ts ps l i = x := ⟨_, rfl⟩
    obtain ⟨nv, hnv⟩ : ∃ x, nb ts ps l i = x := ⟨_, rfl⟩
    rw [hsv] at hsb hss
    rw [hnv] at hds hss
    have hnb : tk ts i + pa (lenF l) ps 0 i = nv := hnv
    rw [hsv]
    repeat (first | refine l_val rfl rfl (by first | exact pureEval_ok rfl | exact v_load rfl (by repeat (first | exact List.Mem.head _ | apply List.Mem.tail)) rfl (by rfl)  | fail) ?_ | refine l_nil ?_ | refine c_region ?_ | refine c_seq ?_ | refine x_then ?_ | refine c_dec_t rfl (by first | omega  | fail) ?_ | refine c_block ?_ | refine c_skip ?_  | fail)
    refine r_call rfl rfl rfl (fun W hW => h33i W (hin W (a5.at hW) (a6.at hW) (a7.at hW))) ?_
    dsimp only [v2]
    repeat ((fail_if_success refine c_probe (id := 21) ?_); (fail_if_success refine c_probe1 (id := 21) ?_); first | refine l_val rfl rfl (by first | exact pureEval_ok rfl  | fail) ?_ | refine l_nil ?_ | refine c_region ?_ | refine c_seq ?_ | refine x_then ?_ | refine c_false rfl ?_ | refine c_skip ?_  | fail)
    obtain ⟨fr, hfr⟩ : ∃ x, isFr ps i = x := ⟨_, rfl⟩
    rw [hfr] at hds
    refine c_seq ?_
    refine c_meetI (ι := Nat) (fun j' => Tm.At ps j' ((i : Int) + 1)) (fun j' => [(1, .slice P l.length cp), (2, .pointer (some ⟨bc, 0, none⟩)), (5, .pointer (some ⟨bu, 0, none⟩)), (7, .int .i64 (bS ts ps l N)), (9, .slice (some ⟨bt, 0, none⟩) (N + 1) (N + 1)), (10, gSl (dL ts ps l i) b cd), (11, .int .i64 sv), (12, .int .i64 j'), (13, .int .i64 i), (14, .int .i64 nv), (16, .bool (!fr)), (83, .int .i64 N), (84, .int .i64 i)])
      (fun _ => (bt, .cells ⟨ivec (N + 1) (tS ts ps l i)⟩ 3 (0, 0)) :: (bu, .cells ⟨[.int .i64 ((N + 1 : Nat) : Int), .slice A1 oL.length c1, .slice A2 oC.length c2]⟩ 24 (0, 0)) :: (bc, .cells ⟨[.int .i64 N, .slice cA ts.length ca, .slice cB ps.length cb, .slice cC sp.length cc]⟩ 28 (0, 0)) :: gM inE 3 (dL ts ps l i) b r) ?_ ?_
    · obtain ⟨tv, htv⟩ : ∃ x, tk ts i = x := ⟨_, rfl⟩
      rw [htv] at hbars hnb ⊢
      have hds' := fun (_ : Unit) => hds
      clear hds hsb1 hss
      by_cases hje : j < ps.length
      · obtain ⟨p, hp⟩ : ∃ p, ps[j]? = some p := ⟨_, List.getElem?_eq_getElem hje⟩
        obtain ⟨x, hx⟩ : ∃ x, l[j]? = some x := ⟨_, List.getElem?_eq_getElem (by omega)⟩
        obtain ⟨bp, op, rfl, hep⟩ := a6.get hp
        obtain ⟨bx, ox, rfl, hex⟩ := a8.get hx
        rw [Nat.mul_one] at hex
        have hpg := ascP_get hok.ascP hp
        have hlx := (lensB_iff.1 hl).2 j p x hp hx
        obtain ⟨q1, q2⟩ := psAt_has hok.ascP hat hp
        by_cases hbar : p.bar = i
        · have hh : hasP ps j i = true := by unfold hasP; rw [hp]; exact decide_eq_true hbar
          have hpa := pa_has (len := lenF l) hat hh
          have hlf : lenF l j = x := by unfold lenF; rw [List.getD_eq_getElem?_getD, hx]; rfl
          rw [hpa, hlf] at hnb
          have hat2 := at_has hok.ascP hat hh
          have hfr2 : isFr ps i = decide (p.kind = 1) := by unfold isFr; rw [q1 hbar]
          rw [hfr] at hfr2
          clear q1 q2 hpa hh
          by_cases hk2 : p.kind = 2
          · have hfv : fr = false := by rw [hfr2]; exact decide_eq_false (by omega)
            subst hfv
            clear hfr2
            repeat (first | refine l_val rfl rfl (by first | exact v_add rfl rfl (by omega) (by omega) | exact pureEval_ok rfl | exact v_load rfl (by repeat (first | exact List.Mem.head _ | apply List.Mem.tail)) rfl (by rfl) | exact v_load_ext0 rfl (by assumption) rfl (by rfl) | exact v_load_ext rfl (by assumption) rfl (by rfl) | exact v_index rfl rfl rfl rfl (by omega) (by omega) (by with_reducible first | exact idx2 _ _  | exact idx4 _ _ _   | fail)  | fail) ?_ | refine l_nil ?_ | refine c_region ?_ | refine c_seq ?_ | refine x_then ?_ | refine c_dec_t rfl (by first | omega  | fail) ?_ | refine l_dec_t rfl rfl rfl rfl rfl (by first | omega  | fail) ?_  | fail)
            rw [decide_eq_true hk2]
            exact x_midI (j + 1) hat2 (by rw [← hnb]; exact (by repeat (first | exact EnvSub.nil | refine EnvSub.cons rfl (by first | rfl | (congr 1; done) | (exact congrArg (Value.int _) (by omega)) | (simp; done)) ?_))) (by repeat (first | exact MSub.nil | refine MSub.keep (by first | rfl | assumption) ?_ | refine MSub.drop ?_ | exact MSub.refl _))
          · have hfv : fr = true := by rw [hfr2]; exact decide_eq_true (by omega)
            subst hfv
            clear hfr2
            repeat (first | refine l_val rfl rfl (by first | exact v_add rfl rfl (by omega) (by omega) | exact pureEval_ok rfl | exact v_load rfl (by repeat (first | exact List.Mem.head _ | apply List.Mem.tail)) rfl (by rfl) | exact v_load_ext0 rfl (by assumption) rfl (by rfl) | exact v_load_ext rfl (by assumption) rfl (by rfl) | exact v_index rfl rfl rfl rfl (by omega) (by omega) (by with_reducible first | exact idx2 _ _  | exact idx4 _ _ _   | fail)  | fail) ?_ | refine l_nil ?_ | refine c_region ?_ | refine c_seq ?_ | refine x_then ?_ | refine c_dec_t rfl (by first | omega  | fail) ?_ | refine l_dec_t rfl rfl rfl rfl rfl (by first | omega  | fail) ?_  | fail)
            rw [decide_eq_false hk2]
            exact x_midI (j + 1) hat2 (by rw [← hnb]; exact (by repeat (first | exact EnvSub.nil | refine EnvSub.cons rfl (by first | rfl | (congr 1; done) | (exact congrArg (Value.int _) (by omega)) | (simp; done)) ?_))) (by repeat (first | exact MSub.nil | refine MSub.keep (by first | rfl | assumption) ?_ | refine MSub.drop ?_ | exact MSub.refl _))
        · have hh : hasP ps j i = false := by unfold hasP; rw [hp]; exact decide_eq_false hbar
          have hpa := pa_not (len := lenF l) hok.ascP hat hh
          rw [hpa, Int.add_zero] at hnb
          have hat2 := at_not hok.ascP hat hh
          have hfr2 : isFr ps i = false := by unfold isFr; rw [q2 hbar]
          rw [hfr] at hfr2
          subst hfr2
          clear q1 q2 hpa hh
          repeat (first | refine l_val rfl rfl (by first | exact pureEval_ok rfl | exact v_load rfl (by repeat (first | exact List.Mem.head _ | apply List.Mem.tail)) rfl (by rfl) | exact v_load_ext0 rfl (by assumption) rfl (by rfl) | exact v_index rfl rfl rfl rfl (by omega) (by omega) (by with_reducible first | exact idx4 _ _ _   | fail)  | fail) ?_ | refine l_nil ?_ | refine c_region ?_ | refine c_seq ?_ | refine x_then ?_ | refine c_dec_f rfl (by first | omega  | fail) ?_ | refine c_skip ?_ | refine l_dec_t rfl rfl rfl rfl rfl (by first | omega  | fail) ?_  | fail)
          exact x_midI j hat2 (by rw [← hnb]; exact (by repeat (first | exact EnvSub.nil | refine EnvSub.cons rfl (by first | rfl | (congr 1; done) | (exact congrArg (Value.int _) (by omega)) | (simp; done)) ?_))) (by repeat (first | exact MSub.nil | refine MSub.keep (by first | rfl | assumption) ?_ | refine MSub.drop ?_ | exact MSub.refl _))
      · have hh : hasP ps j i = false := by unfold hasP; rw [List.getElem?_eq_none (by omega)]
        have hpa := pa_not (len := lenF l) hok.ascP hat hh
        rw [hpa, Int.add_zero] at hnb
        have hat2 := at_not hok.ascP hat hh
        have hfr2 : isFr ps i = false := by unfold isFr; rw [psAt_end hat (by omega)]
        rw [hfr] at hfr2
        subst hfr2
        clear hpa hh
        repeat (first | refine l_val rfl rfl (by first | exact pureEval_ok rfl  | fail) ?_ | refine l_nil ?_ | refine c_region ?_ | refine c_seq ?_ | refine x_then ?_ | refine l_skip rfl rfl ?_ | refine c_false rfl ?_ | refine c_skip ?_ | refine l_dec_f rfl rfl rfl rfl rfl (by first | omega  | fail) ?_  | fail)
        exact x_midI j hat2 (by rw [← hnb]; exact (by repeat (first | exact EnvSub.nil | refine EnvSub.cons rfl (by first | rfl | (congr 1; done) | (exact congrArg (Value.int _) (by omega)) | (simp; done)) ?_))) (by repeat (first | exact MSub.nil | refine MSub.keep (by first | rfl | assumption) ?_ | refine MSub.drop ?_ | exact MSub.refl _))
    intro j' hat2
    clear hat hnb hbars
    have hii : ((i : Int) + 1).toNat = i + 1 := by omega
    cases fr with
    | true =>
      rw [if_pos rfl] at hds
      repeat (first | refine l_val rfl rfl (by first | exact v_add rfl rfl (by omega) (by omega) | exact pureEval_ok rfl | exact v_index rfl rfl rfl rfl (by omega) (by omega) (by with_reducible first | exact idx5 _   | fail)  | fail) ?_ | refine l_nil ?_ | refine c_region ?_ | refine c_seq ?_ | refine x_then ?_ | refine r_store_at rfl rfl rfl rfl rfl rfl (by repeat (first | exact Upd.head | apply Upd.tail)) (by first | (rw [ivec_length]; omega)  | fail) (by first | exact ivec_set  | fail) ?_ | refine c_false rfl ?_ | refine c_skip ?_ | refine x_block ?_  | fail)
      rw [hii, ← hss, tS_succ]
      exact x_back ⟨i + 1, j', b, cd, r⟩ ⟨hlt, hat2, by rw [hds]; exact hgr⟩ (by simp only; omega) (by simp only [hds]; exact (by repeat (first | exact EnvSub.nil | refine EnvSub.cons rfl (by first | rfl | (congr 1; done) | (exact congrArg (Value.int _) (by omega)) | (simp; done)) ?_))) (by simp only [hds]; exact (by repeat (first | exact MSub.nil | refine MSub.keep (by first | rfl | assumption) ?_ | refine MSub.drop ?_ | exact MSub.refl _)))
    | false =>
      rw [if_neg (by decide)] at hds
      obtain ⟨A', k', hA'⟩ := gSl_len (l := dL ts ps l i) (b := b) (cap := cd)
      rw [hA']
      repeat (first | refine l_val rfl rfl (by first | exact pureEval_ok rfl  | fail) ?_ | refine l_nil ?_ | refine c_region ?_ | refine c_seq ?_ | refine x_then ?_ | refine r_buildSlice rfl rfl rfl rfl rfl rfl (by rfl) (fun _ => ?_) | refine c_true rfl ?_  | fail)
      refine r_appendZ (f := inE) (e := 3) (sz := 1) (xs := dL ts ps l i) (ys := [nv]) (m := 1) rfl rfl (congrArg some hA'.symm) rfl rfl rfl rfl (.inr ⟨_, 0, rfl, news_own (by repeat (first | exact List.Mem.head _ | apply List.Mem.tail))⟩) (List.perm_append_comm (l₁ := [_, _, _, _])) hgr int_rows rfl rfl (by omega) (by unfold maxLen; omega) (fun b' c' r' hg' => ?_)
      rw [← hds] at hg' ⊢
      refine l_perm List.perm_append_comm ?_
      obtain ⟨A2', k2', hA2'⟩ := gSl_len (l := dL ts ps l (i + 1)) (b := b') (cap := c')
      rw [hA2']
      simp only [List.cons_append, List.nil_append]
      repeat (first | refine l_val rfl rfl (by first | exact v_add rfl rfl (by omega) (by omega) | exact pureEval_ok rfl | exact v_index rfl rfl rfl rfl (by omega) (by omega) (by with_reducible first | exact idx5 _   | fail)  | fail) ?_ | refine l_nil ?_ | refine c_region ?_ | refine c_seq ?_ | refine x_then ?_ | refine r_store_at rfl rfl rfl rfl rfl rfl (by repeat (first | exact Upd.head | apply Upd.tail)) (by first | (rw [ivec_length]; omega)  | fail) (by first | exact ivec_set  | fail) ?_ | refine x_block ?_  | fail)
      rw [hii, ← hss, tS_succ, ← hA2']
      exact x_back ⟨i + 1, j', b', c', r'⟩ ⟨hlt, hat2, hg'⟩ (by simp only; omega) (by repeat (first | exact EnvSub.nil | refine EnvSub.cons rfl (by first | rfl | (congr 1; done) | (exact congrArg (Value.int _) (by omega)) | (simp; done)) ?_)) (by repeat (first | exact MSub.nil | refine MSub.keep (by first | rfl | assumption) ?_ | refine MSub.drop ?_ | exact MSub.refl _))
  · have hie : i = N := by omega
    subst hie
    have hdl := dL_len (ts := ts) (ps := ps) (l := l) i
    have hcl := clL_le ts ps i
    have htl := tB_len (ts := ts) (ps := ps) (l := l) (N := i)
    obtain ⟨A', k', hA'⟩ := gSl_len (l := dL ts ps l i) (b := b) (cap := cd)
    rw [hA', tS_end]
    have hpl19 : ∀ (mem : List (Nat × Obj)) (W : World), (bt, Obj.cells ⟨flatI (tB ts ps l i)⟩ 3 (0, 0)) ∈ mem → (∀ p ∈ gM inE 3 (dL ts ps l i) b r, p ∈ mem) → SatW W3 D3 noJ mem W → Calls Try.prog 19 ⟨[.agg ⟨[.int .i64 ((i + 1 : Nat) : Int), .slice A1 oL.length c1, .slice A2 oC.length c2]⟩, .slice (some ⟨bt, 0, none⟩) (i + 1) (i + 1), .slice A' (dL ts ps l i).length k']⟩ W (PlayQ ((i + 1 : Nat) : Int) oL oC (tB ts ps l i) (dL ts ps l i) W) := fun mem W hm1 hm2 hW => by
      have := Play_calls ⟨((i + 1 : Nat) : Int), A1, c1, oL, A2, c2, oC⟩ (some ⟨bt, 0, none⟩) A' (i + 1) k' (tB ts ps l i) (dL ts ps l i) W ⟨a1.at hW, a2.at hW⟩ (by show oL.length ≤ 1000; omega) (SatW.rows (b := bt) (rest := []) (rows := (tB ts ps l i).map inE) hW hm1 (List.append_nil _).symm (in_len _)) (gSl_at hA' hW hm2) (by omega) (by omega)
      rw [htl] at this
      exact this
    have hok1 : ∀ {W W' : World} {e : Ending}, PlayQ ((i + 1 : Nat) : Int) oL oC (tB ts ps l i) (dL ts ps l i) W e W' → ∃ q : Nat × Nat × List Value, e = .returned (.tuple ⟨[.slice (some ⟨q.1, 0, none⟩) (i + 1) q.2.1, .int .i64 0]⟩) ∧ Below W.heap.size W W' ∧ W.heap.size ≤ q.1 ∧ W'.heap[q.1]? = some (.cells ⟨((tB ts ps l i).map inE).flatten ++ q.2.2⟩ 3 (0, 0)) := fun {W W' e} hq => by
      have := hq.ok f1
      rw [f2, htl] at this
      exact this
    repeat (first | refine l_val rfl rfl (by first | exact pureEval_ok rfl | exact v_load rfl (by repeat (first | exact List.Mem.head _ | apply List.Mem.tail)) rfl (by rfl)  | fail) ?_ | refine l_nil ?_ | refine c_region ?_ | refine c_seq ?_ | refine x_then ?_ | refine c_dec_f rfl (by first | omega  | fail) ?_ | refine c_exit ?_ | refine x_then_exit ?_ | refine x_block_same ?_  | fail)
    refine r_call1 (ι := Nat × Nat × List Value) (v := fun q => .tuple ⟨[.slice (some ⟨q.1, 0, none⟩) (i + 1) q.2.1, .int .i64 0]⟩) (bk := fun q => q.1) (o := fun q => .cells ⟨((tB ts ps l i).map inE).flatten ++ q.2.2⟩ 3 (0, 0)) rfl rfl rfl (fun W hW => (hpl19 _ W (by repeat (first | exact List.Mem.head _ | apply List.Mem.tail)) (fun x hx => by repeat (first | exact hx | apply List.Mem.tail)) hW).mono fun e W' hq => hok1 hq) ?_
    rintro ⟨b8, c8, r8⟩
    simp only
    repeat (first | refine l_val rfl rfl (by first | exact pureEval_ok rfl  | fail) ?_ | refine l_nil ?_ | refine c_region ?_ | refine c_seq ?_ | refine x_then ?_ | refine l_dec_f rfl rfl rfl rfl rfl (by first | omega  | fail) ?_  | fail)
    refine r_call (v := .bool true) rfl rfl rfl (fun W hW => ?_) ?_
    · have := sameI_calls (some ⟨b8, 0, none⟩) (some ⟨bt, 0, none⟩) c8 (i + 1) (tB ts ps l i) (tB ts ps l i) W (SatW.rows (b := b8) (rest := r8) hW (by repeat (first | exact List.Mem.head _ | apply List.Mem.tail)) rfl (in_len _)) (SatW.rows (b := bt) (rest := []) (rows := (tB ts ps l i).map inE) hW (by repeat (first | exact List.Mem.head _ | apply List.Mem.tail)) (List.append_nil _).symm (in_len _)) (by omega) (by omega)
      rw [htl, decide_eq_true rfl] at this
      exact this
    repeat ((fail_if_success refine c_probe (id := 35) ?_); (fail_if_success refine c_probe1 (id := 35) ?_); first | refine l_val rfl rfl (by first | exact pureEval_ok rfl | exact v_load rfl (by repeat (first | exact List.Mem.head _ | apply List.Mem.tail)) rfl (by rfl)  | fail) ?_ | refine l_nil ?_ | refine c_region ?_ | refine c_seq ?_ | refine x_then ?_ | refine c_dec_f rfl (by first | omega  | fail) ?_ | refine c_block ?_ | refine c_skip ?_  | fail)
    have htg : ∀ x : Nat, x ≤ i → (flatI (tB ts ps l i))[x]? = some (.int .i64 (bS ts ps l x)) := fun x hx => by
      have := flatI_get (tB_get (ts := ts) (ps := ps) (l := l) hx) (r := [])
      rwa [List.append_nil] at this
    refine c_loop (ι := Nat) (fun k => k ≤ sp.length) (fun k => [(2, .pointer (some ⟨bc, 0, none⟩)), (5, .pointer (some ⟨bu, 0, none⟩)), (9, .slice (some ⟨bt, 0, none⟩) (i + 1) (i + 1)), (17, .slice (some ⟨b8, 0, none⟩) (i + 1) c8), (19, .bool ((sp.take k).all (spB (bS ts ps l)))), (159, .slice cC sp.length cc), (160, .int .i64 sp.length), (161, .int .i64 k)])
      (fun _ => [(b8, .cells ⟨((tB ts ps l i).map inE).flatten ++ r8⟩ 3 (0, 0)), (bt, .cells ⟨flatI (tB ts ps l i)⟩ 3 (0, 0)), (bu, .cells ⟨[.int .i64 ((i + 1 : Nat) : Int), .slice A1 oL.length c1, .slice A2 oC.length c2]⟩ 24 (0, 0)), (bc, .cells ⟨[.int .i64 i, .slice cA ts.length ca, .slice cB ps.length cb, .slice cC sp.length cc]⟩ 28 (0, 0))]) (fun k => sp.length - k) 0 (Nat.zero_le _) (by repeat (first | exact EnvSub.nil | refine EnvSub.cons rfl (by first | rfl | (congr 1; done) | (exact congrArg (Value.int _) (by omega)) | (simp; done)) ?_)) (MSub.keep rfl (MSub.keep rfl (MSub.keep rfl (MSub.keep rfl MSub.nil)))) ?_
    intro k hk
    by_cases hlt : k < sp.length
    · obtain ⟨s, hsk⟩ : ∃ s, sp[k]? = some s := ⟨_, List.getElem?_eq_getElem hlt⟩
      obtain ⟨bs, os, rfl, hes⟩ := a7.get hsk
      have hsp := hok.sps s (List.mem_of_getElem? hsk)
      simp only [okSp, Bool.and_eq_true, inB_iff, decide_eq_true_eq] at hsp
      have g1 := htg s.f.toNat (by omega)
      have g2 := htg s.t.toNat (by omega)
      have b1 := bS_bd hok hl (k := s.f.toNat) (by omega)
      have b2 := bS_bd hok hl (k := s.t.toNat) (by omega)
      have hnx : (sp.take (k + 1)).all (spB (bS ts ps l)) = ((sp.take k).all (spB (bS ts ps l)) && spB (bS ts ps l) s) := by
        rw [List.take_add_one, hsk, List.all_append]
        simp
      have hsv : spB (bS ts ps l) s = (decide (s.lo ≤ bS ts ps l s.t.toNat - bS ts ps l s.f.toNat) && decide (bS ts ps l s.t.toNat - bS ts ps l s.f.toNat ≤ s.hi)) := rfl
      obtain ⟨fv, hfv⟩ : ∃ x, bS ts ps l s.f.toNat = x := ⟨_, rfl⟩
      obtain ⟨tv, htv⟩ : ∃ x, bS ts ps l s.t.toNat = x := ⟨_, rfl⟩
      rw [hfv, htv] at hsv
      rw [hfv] at g1 b1
      rw [htv] at g2 b2
      rw [hsv] at hnx
      clear hsv hfv htv
      cases hX : (sp.take k).all (spB (bS ts ps l)) with
      | false =>
        rw [hX, Bool.false_and] at hnx
        repeat (first | refine l_val rfl rfl (by first | exact v_add rfl rfl (by omega) (by omega) | exact pureEval_ok rfl | exact v_load_ext0 rfl (by assumption) rfl (by rfl) | exact v_index rfl rfl rfl rfl (by omega) (by omega) (by with_reducible first | exact idx4 _ _ _   | fail)  | fail) ?_ | refine l_nil ?_ | refine c_region ?_ | refine c_seq ?_ | refine x_then ?_ | refine l_skip rfl rfl ?_ | refine r_alloc rfl rfl rfl (by first | exact aggL  | fail) (fun _ => ?_) | refine r_store rfl rfl rfl rfl rfl rfl rfl (by repeat (first | exact Upd.head | apply Upd.tail)) (by rfl) ?_ | refine c_dec_t rfl (by first | omega  | fail) ?_ | refine c_block ?_ | refine c_skip ?_ | refine x_block ?_ | refine c_reads rfl (by decide +kernel) ?_ | refine q_val rfl rfl (by first | exact v_sub rfl rfl (by omega) (by omega) | exact pureEval_ok rfl | exact v_load rfl (by repeat (first | exact List.Mem.head _ | apply List.Mem.tail)) rfl (by rfl) | exact v_index rfl rfl rfl rfl (by omega) (by omega) (by with_reducible first | exact idx5 _   | fail) | exact v_load_at rfl (by repeat (first | exact List.Mem.head _ | apply List.Mem.tail)) rfl rfl (by first | assumption  | fail)  | fail) ?_ | refine q_nil ?_  | fail)
        exact x_back (k + 1) hlt (by omega) (by simp only [hnx]; exact (by repeat (first | exact EnvSub.nil | refine EnvSub.cons rfl (by first | rfl | (congr 1; done) | (exact congrArg (Value.int _) (by omega)) | (simp; done)) ?_))) (by repeat (first | exact MSub.nil | refine MSub.keep (by first | rfl | assumption) ?_ | refine MSub.drop ?_ | exact MSub.refl _))
      | true =>
        rw [hX, Bool.true_and] at hnx
        by_cases hlo : s.lo ≤ tv - fv
        · rw [decide_eq_true hlo, Bool.true_and] at hnx
          repeat (first | refine l_val rfl rfl (by first | exact v_add rfl rfl (by omega) (by omega) | exact pureEval_ok rfl | exact v_load rfl (by repeat (first | exact List.Mem.head _ | apply List.Mem.tail)) rfl (by rfl) | exact v_load_ext0 rfl (by assumption) rfl (by rfl) | exact v_index rfl rfl rfl rfl (by omega) (by omega) (by with_reducible first | exact idx4 _ _ _   | fail)  | fail) ?_ | refine l_nil ?_ | refine c_region ?_ | refine c_seq ?_ | refine x_then ?_ | refine r_alloc rfl rfl rfl (by first | exact aggL  | fail) (fun _ => ?_) | refine r_store rfl rfl rfl rfl rfl rfl rfl (by repeat (first | exact Upd.head | apply Upd.tail)) (by rfl) ?_ | refine c_dec_t rfl (by first | omega  | fail) ?_ | refine c_block ?_ | refine c_skip ?_ | refine x_block ?_ | refine l_dec_t rfl rfl rfl rfl rfl (by first | omega  | fail) ?_ | refine c_reads rfl (by decide +kernel) ?_ | refine q_val rfl rfl (by first | exact v_sub rfl rfl (by omega) (by omega) | exact pureEval_ok rfl | exact v_load rfl (by repeat (first | exact List.Mem.head _ | apply List.Mem.tail)) rfl (by rfl) | exact v_index rfl rfl rfl rfl (by omega) (by omega) (by with_reducible first | exact idx5 _   | fail) | exact v_load_at rfl (by repeat (first | exact List.Mem.head _ | apply List.Mem.tail)) rfl rfl (by first | assumption  | fail)  | fail) ?_ | refine q_nil ?_  | fail)
          exact x_back (k + 1) hlt (by omega) (by simp only [hnx]; exact (by repeat (first | exact EnvSub.nil | refine EnvSub.cons rfl (by first | rfl | (congr 1; done) | (exact congrArg (Value.int _) (by omega)) | (simp; done)) ?_))) (by repeat (first | exact MSub.nil | refine MSub.keep (by first | rfl | assumption) ?_ | refine MSub.drop ?_ | exact MSub.refl _))
        · rw [decide_eq_false hlo, Bool.false_and] at hnx
          repeat (first | refine l_val rfl rfl (by first | exact v_add rfl rfl (by omega) (by omega) | exact pureEval_ok rfl | exact v_load rfl (by repeat (first | exact List.Mem.head _ | apply List.Mem.tail)) rfl (by rfl) | exact v_load_ext0 rfl (by assumption) rfl (by rfl) | exact v_index rfl rfl rfl rfl (by omega) (by omega) (by with_reducible first | exact idx4 _ _ _   | fail)  | fail) ?_ | refine l_nil ?_ | refine c_region ?_ | refine c_seq ?_ | refine x_then ?_ | refine l_skip rfl rfl ?_ | refine r_alloc rfl rfl rfl (by first | exact aggL  | fail) (fun _ => ?_) | refine r_store rfl rfl rfl rfl rfl rfl rfl (by repeat (first | exact Upd.head | apply Upd.tail)) (by rfl) ?_ | refine c_dec_t rfl (by first | omega  | fail) ?_ | refine c_block ?_ | refine c_skip ?_ | refine x_block ?_ | refine l_dec_f rfl rfl rfl rfl rfl (by first | omega  | fail) ?_ | refine c_reads rfl (by decide +kernel) ?_ | refine q_val rfl rfl (by first | exact v_sub rfl rfl (by omega) (by omega) | exact pureEval_ok rfl | exact v_load rfl (by repeat (first | exact List.Mem.head _ | apply List.Mem.tail)) rfl (by rfl) | exact v_index rfl rfl rfl rfl (by omega) (by omega) (by with_reducible first | exact idx5 _   | fail) | exact v_load_at rfl (by repeat (first | exact List.Mem.head _ | apply List.Mem.tail)) rfl rfl (by first | assumption  | fail)  | fail) ?_ | refine q_nil ?_  | fail)
          exact x_back (k + 1) hlt (by omega) (by simp only [hnx]; exact (by repeat (first | exact EnvSub.nil | refine EnvSub.cons rfl (by first | rfl | (congr 1; done) | (exact congrArg (Value.int _) (by omega)) | (simp; done)) ?_))) (by repeat (first | exact MSub.nil | refine MSub.keep (by first | rfl | assumption) ?_ | refine MSub.drop ?_ | exact MSub.refl _))
    have hke : k = sp.length := by omega
    subst hke
    rw [List.take_length]
    clear hlt
    repeat (first | refine l_val rfl rfl (by first | exact pureEval_ok rfl | exact v_load rfl (by repeat (first | exact List.Mem.head _ | apply List.Mem.tail)) rfl (by rfl) | exact v_build rfl rfl (by rfl)  | fail) ?_ | refine l_nil ?_ | refine c_region ?_ | refine c_seq ?_ | refine x_then ?_ | refine c_dec_f rfl (by first | omega  | fail) ?_ | refine c_exit ?_ | refine x_then_exit ?_ | refine x_block_same ?_  | fail)
    refine r_call (v := mtV ((i + 1 : Nat) : Int) oL (tB ts ps l i)) rfl rfl rfl (fun W hW => ?_) ?_
    · have := Meets_calls ((i + 1 : Nat) : Int) A1 (some ⟨b8, 0, none⟩) c1 c8 oL (tB ts ps l i) W (by omega) (by omega) (a1.at hW) (SatW.rows (b := b8) (rest := r8) (rows := (tB ts ps l i).map inE) hW (by repeat (first | exact List.Mem.head _ | apply List.Mem.tail)) rfl (in_len _))
      rw [htl] at this
      exact this
    unfold mtV
    rw [f3, f4]
    cases sp.all (spB (bS ts ps l))
    all_goals
      repeat (first | refine l_val rfl rfl (by first | exact pureEval_ok rfl  | fail) ?_ | refine l_nil ?_ | refine c_region ?_ | refine c_seq ?_ | refine x_then ?_ | refine c_ret ?_  | fail)
      exact x_ret rfl rfl (by repeat (first | exact Res.nil | (apply Res.tmp; rfl) | (apply Res.cell; rfl; exact (by repeat (first | exact List.Mem.head _ | apply List.Mem.tail)); rfl; rfl))) rfl (fun W hW => ⟨by rw [decide_eq_true rfl], hbel hW⟩)
end R23
end Go.Proofs

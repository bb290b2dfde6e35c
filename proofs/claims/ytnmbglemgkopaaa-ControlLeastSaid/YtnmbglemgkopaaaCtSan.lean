/- Uncertain networks: the chapter's examples, walked. -/
import Derived.Test.YtnmbglemgkopaaaCtSn
import Derived.Test.YtnmbglemgkopaaaCtLk
import Derived.Test.YtnmbglemgkopaaaCtY
import Derived.Test.YtnmbglemgkopaaaCtU
set_option linter.unusedSectionVars false
set_option linter.unusedVariables false
set_option linter.unusedSimpArgs false
namespace Go.Proofs
open Go.RowKit Go.Kin Go.Kin.St Go.Kin.Ct
open R22 (lkE)
open R13 (Clk tpE psE spE)
namespace R23
theorem flatI_ivec' {N : Nat} {t : Nat → Int} : flatI ((List.range N).map t) = ivec N t := by rw [flatI_map, List.map_map]; rfl
theorem us_len' (l : List Us) : ∀ r ∈ l.map usE, r.length = 2 := fun r hr => by obtain ⟨x, _, rfl⟩ := List.mem_map.1 hr; rfl
theorem play_blk {w w' : World} {e : Ending} (hq : PlayQ 2 [] C1 [10, 0] [4] w e w') :
    ∃ i : Nat × Nat × List Value, e = .returned (.tuple ⟨[.slice (some ⟨i.1, 0, none⟩) 2 i.2.1, .int .i64 0]⟩) ∧ Below w.heap.size w w' ∧ w.heap.size ≤ i.1 ∧ w'.heap[i.1]? = some (.cells ⟨([10, 14].map inE).flatten ++ i.2.2⟩ 3 (0, 0)) := by
  obtain ⟨v, h1, h2, h3⟩ := hq
  obtain ⟨p1, p2⟩ := plE_ok play_a
  have p3 : plR 2 [] C1 [10, 0] [4] = [10, 14] := p2.trans play_al
  rw [p1] at h1
  rw [p3] at h2
  rcases h2 with ⟨g, _⟩ | ⟨b, cap, rest, g1, g2, g3, g4⟩
  · cases g
  · exact ⟨(b, cap, rest), by rw [h1, g1]; rfl, h3, g3, g4⟩
theorem play_nil {w w' : World} {e : Ending} (hq : PlayQ 2 [] C1 [-1, 0] [4] w e w') : ∃ i : Option Addr × Nat, e = .returned (.tuple ⟨[.slice i.1 0 i.2, .int .i64 1]⟩) ∧ Below w.heap.size w w' := by
  obtain ⟨v, h1, h2, h3⟩ := hq
  have p2 : plR 2 [] C1 [-1, 0] [4] = [] := if_neg play_no
  rw [play_ne] at h1
  rw [p2] at h2
  obtain ⟨A, cap, g, -⟩ := h2.fr
  exact ⟨(A, cap), by rw [h1, g]; rfl, h3⟩
theorem str_blk {n : Int} {N : Nat} {L C : List Lk} {l : List Int} {w w' : World} {e : Ending} (hn : n.toNat = N) (hs : ∃ t, str n L C = some t ∧ (List.range N).map t = l) (hq : StrQ n L C w e w') :
    ∃ b : Nat, e = .returned (yesV N b) ∧ Below w.heap.size w w' ∧ w.heap.size ≤ b ∧ w'.heap[b]? = some (.cells ⟨(l.map inE).flatten ++ []⟩ 3 (0, 0)) := by
  obtain ⟨t, h1, h2⟩ := hs
  subst hn h2
  rcases hq with ⟨g, _⟩ | ⟨t', b, g1, g2, g3, g4, g5⟩
  · rw [h1] at g; cases g
  · rw [h1] at g1
    cases g1
    exact ⟨b, g2, g3, g4, by rw [g5, List.append_nil]; show _ = some (Obj.cells ⟨flatI ((List.range n.toNat).map t)⟩ 3 (0, 0)); rw [flatI_ivec']⟩
theorem str_noV {n : Int} {L C : List Lk} {w w' : World} {e : Ending} (h0 : chkU n L C = 0) (hs : str n L C = none) (hq : StrQ n L C w e w') : e = .returned (noV 0) ∧ Below w.heap.size w w' := by
  rcases hq with ⟨_, g2, g3⟩ | ⟨t', b, g1, _⟩
  · rw [h0] at g2; exact ⟨g2, g3⟩
  · rw [hs] at g1; cases g1
theorem rft_noV {n : Int} {L C : List Lk} {w w' : World} {e : Ending} (h0 : chkU n L C = 0) (hs : ∃ t, str n L C = some t ∧ True) (hq : RftQ n L C w e w') : e = .returned (noV 0) ∧ Below w.heap.size w w' := by
  obtain ⟨t, h1, _⟩ := hs
  rcases hq with ⟨_, g2, g3⟩ | ⟨_, g, _⟩
  · rw [h0] at g2; exact ⟨g2, g3⟩
  · rw [h1] at g; cases g
theorem rft_yes {n : Int} {L C : List Lk} {w w' : World} {e : Ending} (h0 : chkU n L C = 0) (hs : str n L C = none) (hq : RftQ n L C w e w') : ∃ i : {p : Nat × Nat × Nat // 0 < p.2.1}, e = .returned (.tuple ⟨[.slice (some ⟨i.1.1, 0, none⟩) i.1.2.1 i.1.2.2, .bool true, .int .i64 0]⟩) ∧ Below w.heap.size w w' := by
  rcases hq with ⟨g | ⟨t, g⟩, _⟩ | ⟨_, _, us, b, cap, rest, g1, g2, g3, g4, g5, g6, g7⟩
  · exact absurd h0 g
  · rw [hs] at g; cases g
  · exact ⟨⟨(b, us.length, cap), List.length_pos_iff.2 g1⟩, g4, g5⟩
theorem of_q {A B C : Option Addr} {w w' : World} {e : Ending} (h : OfQ (cl0 A B C) w e w') : ∃ q : (Option Addr × Nat) × (Option Addr × Nat), e = .returned (.tuple ⟨[.agg ⟨[.int .i64 3, .slice q.1.1 2 q.1.2, .slice q.2.1 1 q.2.2]⟩, .int .i64 0]⟩) ∧ Below w.heap.size w w' ∧ Fr w w' q.1.1 4 (L4.map lkE) ∧ Fr w w' q.2.1 4 (C4.map lkE) := by
  obtain ⟨A1, B1, ca, cb, h1, h2, h3, h4⟩ := h
  obtain ⟨g1, g2, g3, g4⟩ := of_all A B C
  rw [g1, g2, g3, g4] at h1
  rw [g3] at h2
  rw [g4] at h3
  exact ⟨((A1, ca), (B1, cb)), h1, h4, h2, h3⟩
theorem lk_ne (l : List Lk) : ∀ r ∈ l.map lkE, r ≠ [] := fun r hr => by obtain ⟨x, _, rfl⟩ := List.mem_map.1 hr; simp [lkE]
theorem tp_len (l : List Go.Kin.Tm.Tp) : ∀ r ∈ l.map tpE, r.length = 3 := fun r hr => by obtain ⟨x, _, rfl⟩ := List.mem_map.1 hr; rfl
theorem ps_len (l : List Go.Kin.Tm.Ps) : ∀ r ∈ l.map psE, r.length = 4 := fun r hr => by obtain ⟨x, _, rfl⟩ := List.mem_map.1 hr; rfl
theorem sp_len (l : List Go.Kin.Tm.Sp) : ∀ r ∈ l.map spE, r.length = 4 := fun r hr => by obtain ⟨x, _, rfl⟩ := List.mem_map.1 hr; rfl
theorem chk_at {n : Int} {A B : Option Addr} {ca cb : Nat} {L C : List Lk} {k : Int} (h : chkU n L C = k) (hl : L.length ≤ 1000) {w : World} (h1 : Kin.At w A 4 (L.map lkE)) (h2 : Kin.At w B 4 (C.map lkE)) : Calls Try.prog 16 ⟨[.agg ⟨[.int .i64 n, .slice A L.length ca, .slice B C.length cb]⟩]⟩ w fun e w' => e = .returned (.int .i64 k) ∧ Below w.heap.size w w' := by
  have := Check_calls ⟨n, A, ca, L, B, cb, C⟩ w ⟨h1, h2⟩ hl
  simp only [h] at this
  exact this
theorem un_in {w : World} {n : Int} {A B : Option Addr} {ca cb : Nat} {L C : List Lk} (h1 : Kin.At w A 4 (L.map lkE)) (h2 : Kin.At w B 4 (C.map lkE)) : (Un.mk n A ca L B cb C).In w := ⟨h1, h2⟩
theorem lk_len (l : List Lk) : ∀ r ∈ l.map lkE, r.length = 4 := fun r hr => by obtain ⟨x, _, rfl⟩ := List.mem_map.1 hr; rfl
theorem at_no {w : World} {A : Option Addr} {sz : Nat} : Kin.At w A sz [] := fun i r h => by simp at h
theorem few_in {n : Int} {L C : List Lk} (h : L.length ≤ 30 ∧ C.length ≤ 30) : chkU n L C = 0 → L.length ≤ 30 ∧ C.length ≤ 30 := fun _ => h
set_option maxRecDepth 100000 in
set_option maxHeartbeats 40000000 in
theorem sane_calls (w : World) : Calls Try.prog 12 ⟨[]⟩ w fun e w' => e = .returned (.bool true) ∧ Below w.heap.size w w' := by
  refine fun_enter Try.func12 rfl Try.ntmps12 rfl rfl (satW_nil w) ?_
  repeat (first | refine l_val rfl rfl (by first | exact pureEval_ok rfl | exact v_load rfl (by repeat (first | exact List.Mem.head _ | apply List.Mem.tail)) rfl (by rfl) | exact v_build rfl rfl (by rfl)  | fail) ?_ | refine l_nil ?_ | refine c_region ?_ | refine c_seq ?_ | refine x_then ?_ | refine r_alloc rfl rfl rfl (by first | exact aggL  | fail) (fun _ => ?_) | refine r_store rfl rfl rfl rfl rfl rfl rfl (by repeat (first | exact Upd.head | apply Upd.tail)) (by rfl) ?_ | refine r_buildSlice rfl rfl rfl rfl rfl rfl (by rfl) (fun _ => ?_) | refine r_call rfl rfl rfl (fun W _ => link_calls _ _ _ _ W) ?_  | fail)
  rename_i b1 b2 b3 b4
  have hone : ∀ {w0 : World} {D : Nat → Prop} {J : (Nat → Prop) → World → Prop} (mem : List (Nat × Obj)) (W : World), (b1, Obj.cells ⟨cellsL (.agg ⟨lkE ⟨0, 1, 3, 5⟩⟩) ++ []⟩ 55 (0, 0)) ∈ mem → SatW w0 D J mem W → Kin.At W (some ⟨b1, 0, none⟩) 4 (C1.map lkE) := fun mem W h hW => SatW.rows (rest := []) hW h rfl (lk_len _)
  refine r_call1 (ι := Nat × Nat × List Value) (v := fun i => .tuple ⟨[.slice (some ⟨i.1, 0, none⟩) 2 i.2.1, .int .i64 0]⟩) (bk := fun i => i.1) (o := fun i => .cells ⟨([10, 14].map inE).flatten ++ i.2.2⟩ 3 (0, 0)) rfl rfl rfl (fun W hW => (Play_calls ⟨2, none, 0, [], some ⟨b1, 0, none⟩, 1, C1⟩ _ _ 2 1 [10, 0] [4] W (un_in at_no (hone _ W (by repeat (first | exact List.Mem.head _ | apply List.Mem.tail)) hW)) (of_decide_eq_true rfl) (SatW.rows (b := b3) (rest := []) hW (by repeat (first | exact List.Mem.head _ | apply List.Mem.tail)) rfl (in_len _)) (SatW.rows (b := b4) (rest := []) hW (by repeat (first | exact List.Mem.head _ | apply List.Mem.tail)) rfl (in_len _)) (by decide) (by decide)).mono fun e W' hq => play_blk hq) ?_
  rintro ⟨b5, c5, r5⟩
  simp only
  repeat (first | refine l_val rfl rfl (by first | exact pureEval_ok rfl | exact v_load rfl (by repeat (first | exact List.Mem.head _ | apply List.Mem.tail)) rfl (by rfl)  | fail) ?_ | refine l_nil ?_ | refine c_region ?_ | refine c_seq ?_ | refine x_then ?_  | fail)
  refine r_call1 (ι := Nat) (bk := fun b => b) (v := fun b => yesV 2 b) (o := fun b => .cells ⟨([0, 0].map inE).flatten ++ []⟩ 3 (0, 0)) rfl rfl rfl (fun W hW => (Strong_calls ⟨2, none, 0, [], some ⟨b1, 0, none⟩, 1, C1⟩ W (un_in at_no (hone _ W (by repeat (first | exact List.Mem.head _ | apply List.Mem.tail)) hW)) (of_decide_eq_true rfl) (few_in (of_decide_eq_true rfl))).mono fun e W' hq => str_blk rfl str_a hq) (fun b6 => ?_)
  unfold yesV
  repeat (first | refine l_val rfl rfl (by first | exact pureEval_ok rfl | exact v_load rfl (by repeat (first | exact List.Mem.head _ | apply List.Mem.tail)) rfl (by rfl)  | fail) ?_ | refine l_nil ?_ | refine c_region ?_ | refine c_seq ?_ | refine x_then ?_  | fail)
  refine r_call (v := noV 0) rfl rfl rfl (fun W hW => (Refute_calls ⟨2, none, 0, [], some ⟨b1, 0, none⟩, 1, C1⟩ W (un_in at_no (hone _ W (by repeat (first | exact List.Mem.head _ | apply List.Mem.tail)) hW)) (of_decide_eq_true rfl) (few_in (of_decide_eq_true rfl))).mono fun e W' hq => rft_noV chk_a (by obtain ⟨t, h, _⟩ := str_a; exact ⟨t, h, trivial⟩) hq) ?_
  unfold noV
  repeat (first | refine l_val rfl rfl (by first | exact pureEval_ok rfl  | fail) ?_ | refine l_nil ?_ | refine c_region ?_ | refine c_seq ?_ | refine x_then ?_ | refine r_buildSlice rfl rfl rfl rfl rfl rfl (by rfl) (fun _ => ?_)  | fail)
  rename_i b7
  refine r_call rfl rfl rfl (fun W hW => sameI_calls _ _ c5 2 [10, 14] [10, 14] W (SatW.rows (b := b5) (rest := r5) hW (by repeat (first | exact List.Mem.head _ | apply List.Mem.tail)) rfl (in_len _)) (SatW.rows (b := b7) (rest := []) hW (by repeat (first | exact List.Mem.head _ | apply List.Mem.tail)) rfl (in_len _)) (by decide) (by decide)) ?_
  rw [decide_eq_true rfl]
  repeat (first | refine l_val rfl rfl (by first | exact pureEval_ok rfl  | fail) ?_ | refine r_buildSlice rfl rfl rfl rfl rfl rfl (by rfl) (fun _ => ?_)  | fail)
  rename_i b8
  refine r_call rfl rfl rfl (fun W hW => sameI_calls _ _ 2 2 [0, 0] [0, 0] W (SatW.rows (b := b6) (rest := []) hW (by repeat (first | exact List.Mem.head _ | apply List.Mem.tail)) rfl (in_len _)) (SatW.rows (b := b8) (rest := []) hW (by repeat (first | exact List.Mem.head _ | apply List.Mem.tail)) rfl (in_len _)) (by decide) (by decide)) ?_
  rw [decide_eq_true rfl]
  repeat (first | refine l_val rfl rfl (by first | exact pureEval_ok rfl | exact v_load rfl (by repeat (first | exact List.Mem.head _ | apply List.Mem.tail)) rfl (by rfl)  | fail) ?_ | refine l_nil ?_ | refine c_region ?_ | refine c_seq ?_ | refine x_then ?_ | refine r_alloc rfl rfl rfl (by first | exact aggL  | fail) (fun _ => ?_) | refine r_store rfl rfl rfl rfl rfl rfl rfl (by repeat (first | exact Upd.head | apply Upd.tail)) (by rfl) ?_ | refine r_buildSlice rfl rfl rfl rfl rfl rfl (by rfl) (fun _ => ?_) | refine c_false rfl ?_ | refine c_skip ?_ | refine r_call rfl rfl rfl (fun W _ => link_calls _ _ _ _ W) ?_  | fail)
  rename_i b9 b10
  have htwo : ∀ (mem : List (Nat × Obj)) (W : World), (b1, Obj.cells ⟨cellsL (.agg ⟨lkE ⟨0, 1, 3, 5⟩⟩) ++ []⟩ 55 (0, 0)) ∈ mem → (b10, Obj.cells ⟨cellsL (.agg ⟨lkE ⟨0, 1, 4, 9⟩⟩) ++ []⟩ 55 (0, 0)) ∈ mem → SatW w (base w) noJ mem W → (Un.mk 2 (some ⟨b10, 0, none⟩) 1 L2 (some ⟨b1, 0, none⟩) 1 C1).In W := fun mem W h h2 hW => un_in (SatW.rows (rest := []) hW h2 rfl (lk_len _)) (hone mem W h hW)
  refine r_call (v := noV 0) rfl rfl rfl (fun W hW => (Strong_calls ⟨2, some ⟨b10, 0, none⟩, 1, L2, some ⟨b1, 0, none⟩, 1, C1⟩ W (htwo _ W (by repeat (first | exact List.Mem.head _ | apply List.Mem.tail)) (by repeat (first | exact List.Mem.head _ | apply List.Mem.tail)) hW) (of_decide_eq_true rfl) (few_in (of_decide_eq_true rfl))).mono fun e W' hq => str_noV chk_b str_b hq) ?_
  unfold noV
  repeat (first | refine l_val rfl rfl (by first | exact pureEval_ok rfl | exact v_load rfl (by repeat (first | exact List.Mem.head _ | apply List.Mem.tail)) rfl (by rfl)  | fail) ?_ | refine l_nil ?_ | refine c_region ?_ | refine c_seq ?_ | refine x_then ?_  | fail)
  refine r_callI (ι := {p : Nat × Nat × Nat // 0 < p.2.1}) (v := fun i => .tuple ⟨[.slice (some ⟨i.1.1, 0, none⟩) i.1.2.1 i.1.2.2, .bool true, .int .i64 0]⟩) rfl rfl rfl (fun W hW => (Refute_calls ⟨2, some ⟨b10, 0, none⟩, 1, L2, some ⟨b1, 0, none⟩, 1, C1⟩ W (htwo _ W (by repeat (first | exact List.Mem.head _ | apply List.Mem.tail)) (by repeat (first | exact List.Mem.head _ | apply List.Mem.tail)) hW) (of_decide_eq_true rfl) (few_in (of_decide_eq_true rfl))).mono fun e W' hq => rft_yes chk_b str_b hq) ?_
  rintro ⟨⟨b11, k11, c11⟩, hk11⟩
  simp only at hk11 ⊢
  repeat (first | refine l_val rfl rfl (by first | exact pureEval_ok rfl | exact v_load rfl (by repeat (first | exact List.Mem.head _ | apply List.Mem.tail)) rfl (by rfl) | exact v_build rfl rfl (by rfl)  | fail) ?_ | refine l_nil ?_ | refine c_region ?_ | refine c_seq ?_ | refine x_then ?_ | refine r_buildSlice rfl rfl rfl rfl rfl rfl (by rfl) (fun _ => ?_)  | fail)
  rename_i b12
  refine r_call (v := .tuple ⟨[.bool true, .int .i64 0]⟩) rfl rfl rfl (fun W hW => (Accepts_calls ⟨2, some ⟨b10, 0, none⟩, 1, L2, some ⟨b1, 0, none⟩, 1, C1⟩ (some ⟨b12, 0, none⟩) 1 [⟨0, true⟩] W (htwo _ W (by repeat (first | exact List.Mem.head _ | apply List.Mem.tail)) (by repeat (first | exact List.Mem.head _ | apply List.Mem.tail)) hW) (of_decide_eq_true rfl) (SatW.rows (rest := []) hW (by repeat (first | exact List.Mem.head _ | apply List.Mem.tail)) rfl (us_len' _)) (by decide)).mono fun e W' hq => ⟨by rw [hq.1]; show Ending.returned (acV 2 L2 C1 [⟨0, true⟩]) = _; unfold acV; rw [accU_b, chk_b], hq.2⟩) ?_
  repeat (first | refine l_val rfl rfl (by first | exact pureEval_ok rfl | exact v_load rfl (by repeat (first | exact List.Mem.head _ | apply List.Mem.tail)) rfl (by rfl) | exact v_build rfl rfl (by rfl)  | fail) ?_ | refine l_nil ?_ | refine c_region ?_ | refine c_seq ?_ | refine x_then ?_ | refine r_buildSlice rfl rfl rfl rfl rfl rfl (by rfl) (fun _ => ?_)  | fail)
  rename_i b13
  refine r_call (v := .tuple ⟨[.bool false, .int .i64 0]⟩) rfl rfl rfl (fun W hW => (Accepts_calls ⟨2, some ⟨b10, 0, none⟩, 1, L2, some ⟨b1, 0, none⟩, 1, C1⟩ (some ⟨b13, 0, none⟩) 1 [⟨0, false⟩] W (htwo _ W (by repeat (first | exact List.Mem.head _ | apply List.Mem.tail)) (by repeat (first | exact List.Mem.head _ | apply List.Mem.tail)) hW) (of_decide_eq_true rfl) (SatW.rows (rest := []) hW (by repeat (first | exact List.Mem.head _ | apply List.Mem.tail)) rfl (us_len' _)) (by decide)).mono fun e W' hq => ⟨by rw [hq.1]; show Ending.returned (acV 2 L2 C1 [⟨0, false⟩]) = _; unfold acV; rw [accU_b2, chk_b], hq.2⟩) ?_
  repeat ((fail_if_success refine c_probe (id := 14) ?_); (fail_if_success refine c_probe1 (id := 14) ?_); first | refine l_val rfl rfl (by first | exact pureEval_ok rfl  | fail) ?_ | refine l_nil ?_ | refine c_region ?_ | refine c_seq ?_ | refine x_then ?_ | refine c_false rfl ?_ | refine c_skip ?_ | refine l_dec_f rfl rfl rfl rfl rfl (by first | omega  | fail) ?_  | fail)
  refine c_keep [1] rfl ?_
  refine c_new 0 2 [(2, .cal (.agg ⟨lkE ⟨1, 2, 2, 4⟩⟩)), (3, .new 0), (5, .new 1), (6, .sto 1 0 3)] [(2,[]),(3,[0]),(5,[1]),(6,[1])] [] rfl (by decide +kernel) rfl ?_; repeat (first | refine e_val rfl rfl rfl rfl (by first | exact pureEval_ok rfl | exact v_load rfl (by repeat (first | exact List.Mem.head _ | apply List.Mem.tail)) rfl (by rfl)  | fail) ?_  | fail)
  refine e_call rfl rfl rfl rfl rfl (fun W _ => link_calls _ _ _ _ W) ?_
  repeat (first | refine l_val rfl rfl (by first | exact v_load rfl (by repeat (first | exact List.Mem.head _ | apply List.Mem.tail)) rfl (by rfl)  | fail) ?_ | refine c_region ?_ | refine c_seq ?_ | refine x_then ?_ | refine e_val rfl rfl rfl rfl (by first | exact v_build rfl rfl (by rfl)  | fail) ?_ | refine e_new rfl rfl rfl rfl (by first | exact n_alloc rfl (by first | exact aggL  | fail) | exact n_buildSlice rfl rfl rfl rfl (by rfl)  | fail) (fun _ => ?_) | refine e_store rfl rfl rfl rfl rfl rfl rfl rfl (by first | rfl  | fail) rfl rfl (by first | (simp; done)  | fail) (by first | exact splice_lit (by rfl)  | fail) ?_ | refine e_nil rfl ?_  | fail)
  rename_i b14 b15
  refine r_call1 (ι := Nat) (bk := fun b => b) (v := fun b => yesV 3 b) (o := fun b => .cells ⟨([0, 0, 7].map inE).flatten ++ []⟩ 3 (0, 0)) rfl rfl rfl (fun W hW => (Strong_calls ⟨3, some ⟨b14, 0, none⟩, 1, L3, some ⟨b1, 0, none⟩, 1, C1⟩ W (un_in (SatW.rows (rest := []) hW (by repeat (first | exact List.Mem.head _ | apply List.Mem.tail)) rfl (lk_len _)) (hone _ W (by repeat (first | exact List.Mem.head _ | apply List.Mem.tail)) hW)) (of_decide_eq_true rfl) (few_in (of_decide_eq_true rfl))).mono fun e W' hq => str_blk rfl str_c hq) (fun b16 => ?_)
  unfold yesV
  repeat (first | refine l_val rfl rfl (by first | exact pureEval_ok rfl  | fail) ?_ | refine l_nil ?_ | refine c_region ?_ | refine c_seq ?_ | refine x_then ?_ | refine r_buildSlice rfl rfl rfl rfl rfl rfl (by rfl) (fun _ => ?_)  | fail)
  rename_i b17
  refine r_call rfl rfl rfl (fun W hW => sameI_calls _ _ 3 3 [0, 0, 7] [0, 0, 7] W (SatW.rows (b := b16) (rest := []) hW (by repeat (first | exact List.Mem.head _ | apply List.Mem.tail)) rfl (in_len _)) (SatW.rows (b := b17) (rest := []) hW (by repeat (first | exact List.Mem.head _ | apply List.Mem.tail)) rfl (in_len _)) (by decide) (by decide)) ?_
  rw [decide_eq_true rfl]
  repeat ((fail_if_success refine c_probe (id := 19) ?_); (fail_if_success refine c_probe1 (id := 19) ?_); first | refine l_val rfl rfl (by first | exact pureEval_ok rfl  | fail) ?_ | refine l_nil ?_ | refine x_then ?_ | refine c_false rfl ?_ | refine c_skip ?_  | fail)
  refine c_keep [1] rfl ?_
  repeat (first | refine l_val rfl rfl (by first | exact v_load rfl (by repeat (first | exact List.Mem.head _ | apply List.Mem.tail)) rfl (by rfl) | exact v_build rfl rfl (by rfl)  | fail) ?_ | refine l_nil ?_ | refine c_region ?_ | refine c_seq ?_ | refine x_then ?_ | refine r_alloc rfl rfl rfl (by first | exact aggL  | fail) (fun _ => ?_) | refine r_store rfl rfl rfl rfl rfl rfl rfl (by repeat (first | exact Upd.head | apply Upd.tail)) (by rfl) ?_ | refine r_buildSlice rfl rfl rfl rfl rfl rfl (by rfl) (fun _ => ?_) | refine r_call rfl rfl rfl (fun W _ => link_calls _ _ _ _ W) ?_  | fail)
  rename_i b18 b19 b20 b21
  refine l_callF (ι := (Option Addr × Nat) × (Option Addr × Nat)) (v := fun q => .tuple ⟨[.agg ⟨[.int .i64 3, .slice q.1.1 2 q.1.2, .slice q.2.1 1 q.2.2]⟩, .int .i64 0]⟩) (fun q W W' => Fr W W' q.1.1 4 (L4.map lkE) ∧ Fr W W' q.2.1 4 (C4.map lkE)) (mem' := [(b2, .cells ⟨[.int .i64 2, .slice none 0 0, .slice (some ⟨b1, 0, none⟩) 1 1]⟩ 24 (0, 0)), (b1, .cells ⟨cellsL (.agg ⟨lkE ⟨0, 1, 3, 5⟩⟩) ++ []⟩ 55 (0, 0))]) rfl rfl rfl (by repeat (first | exact MSub.nil | refine MSub.keep (by first | rfl | assumption) ?_ | refine MSub.drop ?_ | exact MSub.refl _)) (fun W hW => (Of_calls (cl0 (some ⟨b18, 0, none⟩) (some ⟨b19, 0, none⟩) (some ⟨b20, 0, none⟩)) W ⟨of_decide_eq_true rfl, of_decide_eq_true rfl, of_decide_eq_true rfl⟩ ⟨SatW.rows (rest := []) hW (by repeat (first | exact List.Mem.head _ | apply List.Mem.tail)) rfl (tp_len _), SatW.rows (rest := []) hW (by repeat (first | exact List.Mem.head _ | apply List.Mem.tail)) rfl (ps_len _), SatW.rows (rest := []) hW (by repeat (first | exact List.Mem.head _ | apply List.Mem.tail)) rfl (sp_len _)⟩ (of_decide_eq_true rfl)).mono fun e W' hq => of_q hq) ?_
  rintro ⟨⟨A1, c1⟩, ⟨A2, c2⟩⟩ W W3 hW hB3 hW3 ⟨q1, q2⟩
  refine l_gen fun D3 hD3 => ?_
  simp only at q1 q2 ⊢
  have a1 : Ar W3 D3 A1 4 (L4.map lkE) := by rw [hD3]; exact q1.ar (lk_ne _) (fun k hk => SatW.lts hW k (by simp only [List.map_cons, List.map_nil, List.mem_cons, List.not_mem_nil, or_false] at hk; rcases hk with rfl | rfl <;> simp only [List.map_cons, List.mem_cons, true_or, or_true]))
  have a2 : Ar W3 D3 A2 4 (C4.map lkE) := by rw [hD3]; exact q2.ar (lk_ne _) (fun k hk => SatW.lts hW k (by simp only [List.map_cons, List.map_nil, List.mem_cons, List.not_mem_nil, or_false] at hk; rcases hk with rfl | rfl <;> simp only [List.map_cons, List.mem_cons, true_or, or_true]))
  have hbel : ∀ {mem : List (Nat × Obj)} {W' : World}, SatW W3 D3 noJ mem W' → Below w.heap.size w W' := fun {mem W'} hm => (hW3.same.trans (hm.same.mono (by rw [hD3]; exact hW3.allBut (MSub.refl _)))).below (Nat.le_refl _) fun _ hk => hk
  clear q1 q2 hW hB3 hW3 hD3
  repeat (first | refine l_val rfl rfl (by first | exact pureEval_ok rfl | exact v_load rfl (by repeat (first | exact List.Mem.head _ | apply List.Mem.tail)) rfl (by rfl) | exact v_build rfl rfl (by rfl)  | fail) ?_ | refine l_nil ?_ | refine c_region ?_ | refine c_seq ?_ | refine x_then ?_ | refine r_alloc rfl rfl rfl (by first | exact aggL  | fail) (fun _ => ?_) | refine r_store rfl rfl rfl rfl rfl rfl rfl (by repeat (first | exact Upd.head | apply Upd.tail)) (by rfl) ?_ | refine r_buildSlice rfl rfl rfl rfl rfl rfl (by rfl) (fun _ => ?_) | refine r_call rfl rfl rfl (fun W _ => link_calls _ _ _ _ W) ?_  | fail)
  rename_i b22 b23 b24 b25 b26 b27 b28 b29
  refine r_callI (ι := Option Addr × Nat) (v := fun i => .tuple ⟨[.slice i.1 0 i.2, .int .i64 1]⟩) rfl rfl rfl (fun W hW => (Play_calls ⟨2, none, 0, [], some ⟨b1, 0, none⟩, 1, C1⟩ _ _ 2 1 [-1, 0] [4] W (un_in at_no (hone _ W (by repeat (first | exact List.Mem.head _ | apply List.Mem.tail)) hW)) (of_decide_eq_true rfl) (SatW.rows (b := b28) (rest := []) hW (by repeat (first | exact List.Mem.head _ | apply List.Mem.tail)) rfl (in_len _)) (SatW.rows (b := b29) (rest := []) hW (by repeat (first | exact List.Mem.head _ | apply List.Mem.tail)) rfl (in_len _)) (by decide) (by decide)).mono fun e W' hq => play_nil hq) ?_
  rintro ⟨A3, c3⟩
  simp only
  repeat (first | refine l_val rfl rfl (by first | exact pureEval_ok rfl | exact v_load rfl (by repeat (first | exact List.Mem.head _ | apply List.Mem.tail)) rfl (by rfl)  | fail) ?_ | refine l_nil ?_ | refine c_region ?_ | refine c_seq ?_ | refine x_then ?_ | refine l_dec_t rfl rfl rfl rfl rfl (by first | omega  | fail) ?_  | fail)
  refine r_call rfl rfl rfl (fun W hW => sameU_calls A1 (some ⟨b23, 0, none⟩) A2 (some ⟨b24, 0, none⟩) c1 2 c2 1 3 L4 C4 W (a1.at hW) (SatW.rows (rest := []) hW (by repeat (first | exact List.Mem.head _ | apply List.Mem.tail)) rfl (lk_len _)) (a2.at hW) (SatW.rows (rest := []) hW (by repeat (first | exact List.Mem.head _ | apply List.Mem.tail)) rfl (lk_len _)) (by decide) (by decide)) ?_
  repeat (first | refine l_val rfl rfl (by first | exact pureEval_ok rfl | exact v_load rfl (by repeat (first | exact List.Mem.head _ | apply List.Mem.tail)) rfl (by rfl)  | fail) ?_  | fail)
  refine r_call rfl rfl rfl (fun W hW => chk_at chk_d (by decide) (a1.at hW) (a2.at hW)) ?_
  repeat (first | refine l_val rfl rfl (by first | exact pureEval_ok rfl | exact v_load rfl (by repeat (first | exact List.Mem.head _ | apply List.Mem.tail)) rfl (by rfl)  | fail) ?_ | refine l_dec_t rfl rfl rfl rfl rfl (by first | omega  | fail) ?_  | fail)
  refine r_call rfl rfl rfl (fun W hW => chk_at (A := none) (B := some ⟨b26, 0, none⟩) (ca := 0) (cb := 2) chk_e (by decide) at_no (SatW.rows (rest := []) hW (by repeat (first | exact List.Mem.head _ | apply List.Mem.tail)) rfl (lk_len _))) ?_
  repeat (first | refine l_val rfl rfl (by first | exact pureEval_ok rfl | exact v_build rfl rfl (by rfl)  | fail) ?_ | refine l_dec_t rfl rfl rfl rfl rfl (by first | omega  | fail) ?_  | fail)
  refine r_call rfl rfl rfl (fun W hW => chk_at (A := none) (B := none) (ca := 0) (cb := 0) chk_f (by decide) at_no at_no) ?_
  repeat (first | refine l_val rfl rfl (by first | exact pureEval_ok rfl  | fail) ?_ | refine l_nil ?_ | refine x_then ?_ | refine c_ret ?_  | fail)
  exact x_ret rfl rfl (by repeat (first | exact Res.nil | (apply Res.tmp; rfl) | (apply Res.cell; rfl; exact (by repeat (first | exact List.Mem.head _ | apply List.Mem.tail)); rfl; rfl))) rfl (fun W hW => ⟨rfl, hbel hW⟩)
end R23
end Go.Proofs

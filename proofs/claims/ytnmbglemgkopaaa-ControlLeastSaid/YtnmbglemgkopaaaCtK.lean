/- Uncertain networks: Accepts, as the program and the specification have it; Refuted. -/
import Derived.Test.YtnmbglemgkopaaaCtJ
set_option linter.unusedSectionVars false
set_option linter.unusedVariables false
set_option linter.unusedSimpArgs false
namespace Go.Proofs
open Go.RowKit Go.Kin Go.Kin.St Go.Kin.Ct
open R22
namespace R23
/-- what Accepts says -/
noncomputable def accU (n : Int) (L C : List Lk) (us : List Us) : Bool := @ite _ (chkU n L C = 0 ∧ 1 ≤ us.length ∧ us.length ≤ 256) (Classical.propDecidable _) (accepts (net C n.toNat L) us) false
noncomputable def acV (n : Int) (L C : List Lk) (us : List Us) : Value := .tuple ⟨[.bool (accU n L C us), .int .i64 (chkU n L C)]⟩
theorem accU_no {n : Int} {L C : List Lk} {us : List Us} (h : ¬ (chkU n L C = 0 ∧ 1 ≤ us.length ∧ us.length ≤ 256)) : accU n L C us = false := if_neg h
theorem accU_is {n : Int} {L C : List Lk} {us : List Us} (h : chkU n L C = 0 ∧ 1 ≤ us.length ∧ us.length ≤ 256) : accU n L C us = accepts (net C n.toNat L) us := if_pos h
def Kn (L : List Lk) (us : List Us) : Prop := ∀ u ∈ us, 0 ≤ u.link ∧ u.link < L.length
theorem kn_no {L C : List Lk} {N : Nat} {us : List Us} (h : ¬ Kn L us) : accepts (net C N L) us = false := by
  refine accepts_known ?_
  unfold known
  rw [net_len]
  apply Bool.eq_false_iff.2
  intro ha
  rw [List.all_eq_true] at ha
  refine h fun u hu => ?_
  have := ha u hu
  simp only [Bool.and_eq_true, decide_eq_true_eq] at this
  exact this
theorem run_cons {l : List Lk} {p : Nat} {s : Int} {u : Us} {us : List Us} {e : Ed} (h : stepOf l u = some e) : run l p s (u :: us) = if e.a = p then run l e.b (s + e.w) us else none := by simp only [run, h]
theorem step_red {L C : List Lk} {N : Nat} {u : Us} {x : Lk} (h0 : 0 ≤ u.link) (hx : L[u.link.toNat]? = some x) : stepOf (net C N L) u = some (redU C N L u) := by rw [stepOf_net h0 hx, redU_of hx]
theorem last_red {L C : List Lk} {N : Nat} {us : List Us} {u : Us} {x : Lk} (hl : us[us.length - 1]? = some u) (h0 : 0 ≤ u.link) (hx : L[u.link.toNat]? = some x) : lastEnd (net C N L) us = (redU C N L u).b := by
  have hg : us.getLast? = some u := by rw [List.getLast?_eq_getElem?, hl]
  unfold lastEnd
  simp only [hg, step_red h0 hx]
theorem redU_in {L C : List Lk} {N : Nat} (hT : Tree N C) (hF : Fine N L) {u : Us} {x : Lk} (hx : L[u.link.toNat]? = some x) : (redU C N L u).a < N ∧ (redU C N L u).b < N ∧ -(1099511627776 * ((C.length : Int) + 1)) ≤ (redU C N L u).w ∧ (redU C N L u).w ≤ 1099511627776 * ((C.length : Int) + 1) := by
  rw [redU_of hx]
  have hm : redS C N u.lower x ∈ redE C N L := redE_mem.2 ⟨x, List.mem_of_getElem? hx, u.lower, rfl⟩
  have h1 := redE_in hT hF _ hm
  have h2 := redE_wt hT hF hm
  exact ⟨h1.1, h1.2, h2⟩
/-! ## The program's search for numbers that are not there -/
theorem bad_calls (u : Un) (b : Nat) (y : Us) (w : World) (hb : w.heap[b]? = some (.cells ⟨u.v⟩ 24 (0, 0))) :
    Calls Try.prog 51 ⟨[ukV y, .pointer (some ⟨b, 0, none⟩)]⟩ w fun e w' => e = .returned (.bool (decide (¬ (0 ≤ y.link ∧ y.link < u.L.length)))) ∧ Below w.heap.size w w' := by
  obtain ⟨n, A, cap, L, B, cab, C⟩ := u
  obtain ⟨yl, yb⟩ := y
  simp only [Un.v] at hb ⊢
  have hbe : Ext w (base w) b 0 [.int .i64 n, .slice A L.length cap, .slice B C.length cab] := extOf hb (lt_of_heap hb)
  refine fun_enter Try.func51 rfl Try.ntmps51 rfl rfl (satW_nil w) ?_
  by_cases h1 : yl < 0
  · rw [decide_eq_true (by omega)]
    repeat (first | refine l_val rfl rfl (by first | exact pureEval_ok rfl | exact v_load rfl (by repeat (first | exact List.Mem.head _ | apply List.Mem.tail)) rfl (by rfl)  | fail) ?_ | refine l_nil ?_ | refine c_region ?_ | refine c_seq ?_ | refine x_then ?_ | refine l_skip rfl rfl ?_ | refine r_box rfl rfl rfl rfl (fun _ => ?_) | refine c_ret ?_ | refine l_dec_t rfl rfl rfl rfl rfl (by first | omega  | fail) ?_  | fail)
    exact x_ret rfl rfl (by repeat (first | exact Res.nil | (apply Res.tmp; rfl) | (apply Res.cell; rfl; exact (by repeat (first | exact List.Mem.head _ | apply List.Mem.tail)); rfl; rfl))) rfl (fun W hW => ⟨rfl, hW.below⟩)
  · by_cases h2 : yl < L.length
    · rw [decide_eq_false (by omega)]
      repeat (first | refine l_val rfl rfl (by first | exact pureEval_ok rfl | exact v_load rfl (by repeat (first | exact List.Mem.head _ | apply List.Mem.tail)) rfl (by rfl) | exact v_load_ext rfl (by assumption) rfl (by rfl)  | fail) ?_ | refine l_nil ?_ | refine c_region ?_ | refine c_seq ?_ | refine x_then ?_ | refine r_box rfl rfl rfl rfl (fun _ => ?_) | refine c_ret ?_ | refine l_dec_f rfl rfl rfl rfl rfl (by first | omega  | fail) ?_  | fail)
      refine x_ret rfl rfl (by repeat (first | exact Res.nil | (apply Res.tmp; rfl) | (apply Res.cell; rfl; exact (by repeat (first | exact List.Mem.head _ | apply List.Mem.tail)); rfl; rfl))) rfl (fun W hW => ⟨?_, hW.below⟩)
      first | rfl | (congr 2; simp; omega) | (simp; omega)
    · rw [decide_eq_true (by omega)]
      repeat (first | refine l_val rfl rfl (by first | exact pureEval_ok rfl | exact v_load rfl (by repeat (first | exact List.Mem.head _ | apply List.Mem.tail)) rfl (by rfl) | exact v_load_ext rfl (by assumption) rfl (by rfl)  | fail) ?_ | refine l_nil ?_ | refine c_region ?_ | refine c_seq ?_ | refine x_then ?_ | refine r_box rfl rfl rfl rfl (fun _ => ?_) | refine c_ret ?_ | refine l_dec_f rfl rfl rfl rfl rfl (by first | omega  | fail) ?_  | fail)
      refine x_ret rfl rfl (by repeat (first | exact Res.nil | (apply Res.tmp; rfl) | (apply Res.cell; rfl; exact (by repeat (first | exact List.Mem.head _ | apply List.Mem.tail)); rfl; rfl))) rfl (fun W hW => ⟨?_, hW.below⟩)
      first | rfl | (congr 2; simp; omega) | (simp; omega)
theorem index_calls (u : Un) (b : Nat) (U : Option Addr) (capU : Nat) (us : List Us) (w : World) (hU : Kin.At w U 2 (us.map usE)) (hl : us.length ≤ 1000) (hb : w.heap[b]? = some (.cells ⟨u.v⟩ 24 (0, 0))) :
    Calls Try.prog 75 ⟨[.slice U us.length capU, .func (.func 51) ⟨[]⟩ ⟨[.pointer (some ⟨b, 0, none⟩)]⟩]⟩ w fun e w' => ∃ r : {r : Int // 0 ≤ r ↔ ¬ Kn u.L us}, e = .returned (.int .i64 r.1) ∧ Below w.heap.size w w' := by
  have hbd : ∀ (y : Us) (mem : List (Nat × Obj)) (W : World), SatW w (base w) noJ mem W → Calls Try.prog 51 ⟨[ukV y, .pointer (some ⟨b, 0, none⟩)]⟩ W fun e w' => e = .returned (.bool (decide (¬ (0 ≤ y.link ∧ y.link < u.L.length)))) ∧ Below W.heap.size W w' := fun y mem W hW => bad_calls u b y W (hW.same.obj hb (lt_of_heap hb))
  generalize u.L = L at *
  refine fun_enter Try.func75 rfl Try.ntmps75 rfl rfl (satW_nil w) ?_
  repeat (first | refine l_val rfl rfl (by first | exact pureEval_ok rfl  | fail) ?_ | refine l_nil ?_ | refine c_region ?_ | refine c_seq ?_ | refine x_then ?_ | refine c_block ?_  | fail)
  refine c_loop (ι := Nat) (fun k => k ≤ us.length ∧ Kn L (us.take k)) (fun k => [(0, .slice U us.length capU), (1, .func (.func 51) ⟨[]⟩ ⟨[.pointer (some ⟨b, 0, none⟩)]⟩), (7, .int .i64 us.length), (8, .int .i64 k)]) (fun _ => []) (fun k => us.length - k) 0 ⟨Nat.zero_le _, fun u hu => by simp at hu⟩ (by repeat (first | exact EnvSub.nil | refine EnvSub.cons rfl (by first | rfl | (congr 1; done) | (exact congrArg (Value.int _) (by omega)) | (simp; done)) ?_)) (by repeat (first | exact MSub.nil | refine MSub.keep (by first | rfl | assumption) ?_ | refine MSub.drop ?_ | exact MSub.refl _)) ?_
  rintro k ⟨hk, hF⟩
  by_cases hlt : k < us.length
  · obtain ⟨y, hy⟩ : ∃ y, us[k]? = some y := ⟨_, List.getElem?_eq_getElem hlt⟩
    obtain ⟨b', o, rfl, hc⟩ := hU k (usE y) (by simp [hy])
    have he := ext_of hc
    repeat (first | refine l_val rfl rfl (by first | exact pureEval_ok rfl | exact v_load_ext0 rfl (by assumption) rfl (by rfl) | exact v_index rfl rfl rfl rfl (by omega) (by omega) (by with_reducible first | exact idx4 _ _ _   | fail)  | fail) ?_ | refine l_nil ?_ | refine c_region ?_ | refine c_seq ?_ | refine x_then ?_ | refine c_dec_t rfl (by first | omega  | fail) ?_ | refine c_block ?_ | refine c_skip ?_  | fail)
    refine r_callv rfl rfl rfl rfl rfl (fun W hW => hbd y _ W hW) ?_
    by_cases hg : 0 ≤ y.link ∧ y.link < L.length
    · rw [decide_eq_false (fun h => h hg)]
      repeat (first | refine l_val rfl rfl (by first | exact v_add rfl rfl (by omega) (by omega) | exact pureEval_ok rfl  | fail) ?_ | refine l_nil ?_ | refine c_region ?_ | refine x_then ?_ | refine c_false rfl ?_ | refine c_skip ?_ | refine x_block ?_  | fail)
      refine x_back (k + 1) ⟨hlt, fun z hz => ?_⟩ (by omega) (by repeat (first | exact EnvSub.nil | refine EnvSub.cons rfl (by first | rfl | (congr 1; done) | (exact congrArg (Value.int _) (by omega)) | (simp; done)) ?_)) (by repeat (first | exact MSub.nil | refine MSub.keep (by first | rfl | assumption) ?_ | refine MSub.drop ?_ | exact MSub.refl _))
      rw [List.take_add_one, hy] at hz
      rcases List.mem_append.1 hz with h | h
      · exact hF z h
      · simp only [Option.toList_some, List.mem_singleton] at h
        rw [h]; exact hg
    · rw [decide_eq_true hg]
      have hno : ¬ Kn L us := fun h => hg (h y (List.mem_of_getElem? hy))
      repeat (first | refine l_val rfl rfl (by first | exact pureEval_ok rfl  | fail) ?_ | refine l_nil ?_ | refine c_region ?_ | refine c_seq ?_ | refine x_then ?_ | refine c_true rfl ?_ | refine c_ret ?_ | refine x_then_ret ?_ | refine x_block_ret ?_  | fail)
      exact x_ret rfl rfl (by repeat (first | exact Res.nil | (apply Res.tmp; rfl) | (apply Res.cell; rfl; exact (by repeat (first | exact List.Mem.head _ | apply List.Mem.tail)); rfl; rfl))) rfl (fun W hW => ⟨⟨(k : Int), ⟨fun _ => hno, fun _ => by omega⟩⟩, rfl, hW.below⟩)
  · have hkl : k = us.length := by omega
    subst hkl
    rw [List.take_length] at hF
    repeat (first | refine l_val rfl rfl (by first | exact pureEval_ok rfl  | fail) ?_ | refine l_nil ?_ | refine c_region ?_ | refine c_seq ?_ | refine x_then ?_ | refine c_dec_f rfl (by first | omega  | fail) ?_ | refine c_ret ?_ | refine c_exit ?_ | refine x_then_exit ?_ | refine x_block_same ?_  | fail)
    exact x_ret rfl rfl (by repeat (first | exact Res.nil | (apply Res.tmp; rfl) | (apply Res.cell; rfl; exact (by repeat (first | exact List.Mem.head _ | apply List.Mem.tail)); rfl; rfl))) rfl (fun W hW => ⟨⟨-1, ⟨fun h => by omega, fun h => absurd hF h⟩⟩, rfl, hW.below⟩)
theorem contains_calls (u : Un) (b : Nat) (U : Option Addr) (capU : Nat) (us : List Us) (w : World) (hU : Kin.At w U 2 (us.map usE)) (hl : us.length ≤ 1000) (hb : w.heap[b]? = some (.cells ⟨u.v⟩ 24 (0, 0))) :
    Calls Try.prog 50 ⟨[.slice U us.length capU, .func (.func 51) ⟨[]⟩ ⟨[.pointer (some ⟨b, 0, none⟩)]⟩]⟩ w fun e w' => e = .returned (.bool (@decide (¬ Kn u.L us) (Classical.propDecidable _))) ∧ Below w.heap.size w w' := by
  have hix : ∀ (mem : List (Nat × Obj)) (W : World), SatW w (base w) noJ mem W → Calls Try.prog 75 ⟨[.slice U us.length capU, .func (.func 51) ⟨[]⟩ ⟨[.pointer (some ⟨b, 0, none⟩)]⟩]⟩ W fun e w' => ∃ r : {r : Int // 0 ≤ r ↔ ¬ Kn u.L us}, e = .returned (.int .i64 r.1) ∧ Below W.heap.size W w' := fun mem W hW => index_calls u b U capU us W (hU.sat hW) hl (hW.same.obj hb (lt_of_heap hb))
  refine fun_enter Try.func50 rfl Try.ntmps50 rfl rfl (satW_nil w) ?_
  repeat (first | refine l_val rfl rfl (by first | exact pureEval_ok rfl  | fail) ?_ | refine l_nil ?_ | refine c_region ?_ | refine c_seq ?_ | refine x_then ?_  | fail)
  refine r_callI rfl rfl rfl (fun W hW => hix _ W hW) ?_
  rintro ⟨r, hr⟩
  simp only
  by_cases h : Kn u.L us
  · have : ¬ 0 ≤ r := fun h2 => hr.1 h2 h
    repeat (first | refine l_val rfl rfl (by first | exact pureEval_ok rfl  | fail) ?_ | refine l_nil ?_ | refine x_then ?_ | refine c_ret ?_  | fail)
    refine x_ret rfl rfl (by repeat (first | exact Res.nil | (apply Res.tmp; rfl) | (apply Res.cell; rfl; exact (by repeat (first | exact List.Mem.head _ | apply List.Mem.tail)); rfl; rfl))) rfl (fun W hW => ⟨?_, hW.below⟩)
    rw [decide_eq_false this, @decide_eq_false _ (Classical.propDecidable _) (fun h2 : ¬ Kn u.L us => h2 h)]
  · have : 0 ≤ r := hr.2 h
    repeat (first | refine l_val rfl rfl (by first | exact pureEval_ok rfl  | fail) ?_ | refine l_nil ?_ | refine x_then ?_ | refine c_ret ?_  | fail)
    refine x_ret rfl rfl (by repeat (first | exact Res.nil | (apply Res.tmp; rfl) | (apply Res.cell; rfl; exact (by repeat (first | exact List.Mem.head _ | apply List.Mem.tail)); rfl; rfl))) rfl (fun W hW => ⟨?_, hW.below⟩)
    rw [decide_eq_true this, @decide_eq_true _ (Classical.propDecidable _) h]
/-! ## Accepts -/
set_option maxRecDepth 100000 in
set_option maxHeartbeats 40000000 in
theorem Accepts_calls (u : Un) (U : Option Addr) (capU : Nat) (us : List Us) (w : World) (hA : u.In w) (hl : u.L.length ≤ 1000) (hU : Kin.At w U 2 (us.map usE)) (hu : us.length ≤ 1000) :
    Calls Try.prog 27 ⟨[.agg ⟨u.v⟩, .slice U us.length capU]⟩ w fun e w' => e = .returned (acV u.n u.L u.C us) ∧ Below w.heap.size w w' := by
  have hck : ∀ (mem : List (Nat × Obj)) (W : World), SatW w (base w) noJ mem W → Calls Try.prog 39 ⟨[.agg ⟨u.v⟩]⟩ W (ChkQ u.n u.L u.C W) := fun mem W hW => check_calls' u W (hA.sat hW) hl
  have hcn : ∀ (b : Nat) (mem : List (Nat × Obj)) (W : World), SatW w (base w) noJ mem W → (b, Obj.cells ⟨u.v⟩ 24 (0, 0)) ∈ mem → Calls Try.prog 50 ⟨[.slice U us.length capU, .func (.func 51) ⟨[]⟩ ⟨[.pointer (some ⟨b, 0, none⟩)]⟩]⟩ W fun e w' => e = .returned (.bool (@decide (¬ Kn u.L us) (Classical.propDecidable _))) ∧ Below W.heap.size W w' := fun b mem W hW hm => contains_calls u b U capU us W (hU.sat hW) hu (hW.own _ hm).2
  have hof : ∀ (b : OfB) (N : Nat) (y : Us) (x : Lk) (m : MEnt) (W : World), u.n = N → chkU u.n u.L u.C = 0 → 0 ≤ y.link → u.L[y.link.toNat]? = some x → Same (base w) w W → OfIn u N b W → W.heap[b.m]? = some m.o → (∀ e ∈ m.es, EntU (redU u.C N u.L) e) →
      Calls Try.prog 77 ⟨[ukV y, .pointer (some ⟨b.mc, 0, none⟩), .pointer (some ⟨b.u, 0, none⟩), .pointer (some ⟨b.t, 0, none⟩), .pointer (some ⟨b.g, 0, none⟩)]⟩ W fun e w' => ∃ m' : {m' : MEnt // ∀ e ∈ m'.es, EntU (redU u.C N u.L) e}, e = .returned (.agg ⟨edE (redU u.C N u.L y)⟩) ∧ Same (fun k => k ≠ b.m) W w' ∧ w'.heap[b.m]? = some (.map ⟨m'.1.es⟩ m'.1.ck) := fun b N y x m W hn h0 h1 h2 hs hb hm hme => by
    obtain ⟨n1, n2, l1, l2, hF, hT⟩ := chkU_ok h0
    rw [hn] at hF n1 n2 hT
    rw [Int.toNat_natCast] at hT
    exact (of_calls u N b y x m W hn (by omega) (hA.later hs.base_later) (by omega) hT hF h1 h2 hb hm hme).mono fun e W' ⟨m', g1, g2, g3, g4⟩ => ⟨⟨m', g1⟩, g2, g3, g4⟩
  have hst : ∀ (N : Nat) (mem : List (Nat × Obj)) (W : World), SatW w (base w) noJ mem W → _ := fun N mem W hW => steps_calls' u N W
  obtain ⟨n, A, cap, L, B, cab, C⟩ := u
  simp only [Un.v] at hl hck hcn hof hst ⊢
  refine fun_enter Try.func27 rfl Try.ntmps27 rfl rfl (satW_nil w) ?_
  by_cases h0 : chkU n L C = 0
  rotate_left
  · repeat (first | refine l_val rfl rfl (by first | exact pureEval_ok rfl | exact v_load rfl (by repeat (first | exact List.Mem.head _ | apply List.Mem.tail)) rfl (by rfl)  | fail) ?_ | refine l_nil ?_ | refine c_region ?_ | refine c_seq ?_ | refine x_then ?_ | refine r_box rfl rfl rfl rfl (fun _ => ?_)  | fail)
    refine r_callI (ι := (Nat → Int) × (Nat → Int) × (Nat → Nat)) (v := fun i => .tuple ⟨[.agg ⟨treeL i.1 i.2.1 i.2.2⟩, .int .i64 (chkU n L C)]⟩) rfl rfl rfl (fun W hW => (hck _ W hW).mono fun e W' ⟨g1, g2⟩ => ?_) ?_
    · rcases g2 with ⟨g2, g3⟩ | ⟨_, f, g, h, g2⟩
      · exact absurd g2 h0
      · exact ⟨(f, g, h), g2, g1⟩
    rintro ⟨f, g, h⟩
    simp only
    repeat (first | refine r_alloc rfl rfl rfl (treeZ rfl) (fun b2 => ?_) | refine r_store (vs := treeL _ _ _) rfl rfl rfl rfl rfl treeL_beq treeL_one (by repeat (first | exact Upd.head | apply Upd.tail)) (putK_all (treeL_len.trans treeL_len.symm)) ?_ | refine l_val rfl rfl (by first | exact pureEval_ok rfl  | fail) ?_ | refine l_nil ?_ | refine c_region ?_ | refine c_seq ?_ | refine x_then ?_ | refine c_dec_t rfl (by first | omega  | fail) ?_ | refine c_ret ?_ | refine x_then_ret ?_  | fail)
    exact x_ret rfl rfl (by repeat (first | exact Res.nil | (apply Res.tmp; rfl) | (apply Res.cell; rfl; exact (by repeat (first | exact List.Mem.head _ | apply List.Mem.tail)); rfl; rfl))) rfl (fun W hW => ⟨by unfold acV; rw [accU_no fun g => h0 g.1], hW.below⟩)
  obtain ⟨n1, n2, l1, l2, hF, hT⟩ := chkU_ok h0
  obtain ⟨N, rfl⟩ : ∃ N : Nat, n = N := ⟨n.toNat, by omega⟩
  rw [Int.toNat_natCast] at hT
  repeat (first | refine l_val rfl rfl (by first | exact pureEval_ok rfl | exact v_load rfl (by repeat (first | exact List.Mem.head _ | apply List.Mem.tail)) rfl (by rfl)  | fail) ?_ | refine l_nil ?_ | refine c_region ?_ | refine c_seq ?_ | refine x_then ?_ | refine r_box rfl rfl rfl rfl (fun _ => ?_)  | fail)
  refine r_call (v := .tuple ⟨[.agg ⟨theTree C N⟩, .int .i64 0]⟩) rfl rfl rfl (fun W hW => (hck _ W hW).mono fun e W' ⟨g1, g2⟩ => ?_) ?_
  · rcases g2 with ⟨_, g3⟩ | ⟨g2, _⟩
    · rw [Int.toNat_natCast] at g3
      exact ⟨g3, g1⟩
    · exact absurd h0 g2
  have htl : (theTree C N).length = 384 := theTree_len
  unfold theTree
  repeat (first | refine r_alloc rfl rfl rfl (treeZ rfl) (fun b2 => ?_) | refine r_store (vs := treeL _ _ _) rfl rfl rfl rfl rfl treeL_beq treeL_one (by repeat (first | exact Upd.head | apply Upd.tail)) (putK_all (treeL_len.trans treeL_len.symm)) ?_ | refine l_val rfl rfl (by first | exact pureEval_ok rfl  | fail) ?_ | refine l_nil ?_ | refine c_region ?_ | refine c_seq ?_ | refine x_then ?_ | refine c_false rfl ?_ | refine c_skip ?_  | fail)
  by_cases c1 : us.length < 1
  · repeat (first | refine l_val rfl rfl (by first | exact pureEval_ok rfl  | fail) ?_ | refine l_nil ?_ | refine c_region ?_ | refine c_seq ?_ | refine x_then ?_ | refine l_skip rfl rfl ?_ | refine c_true rfl ?_ | refine c_ret ?_ | refine x_then_ret ?_ | refine l_dec_t rfl rfl rfl rfl rfl (by first | omega  | fail) ?_  | fail)
    exact x_ret rfl rfl (by repeat (first | exact Res.nil | (apply Res.tmp; rfl) | (apply Res.cell; rfl; exact (by repeat (first | exact List.Mem.head _ | apply List.Mem.tail)); rfl; rfl))) rfl (fun W hW => ⟨by unfold acV; rw [accU_no fun g => by omega, h0], hW.below⟩)
  by_cases c2 : 256 < us.length
  · repeat (first | refine l_val rfl rfl (by first | exact pureEval_ok rfl  | fail) ?_ | refine l_nil ?_ | refine c_region ?_ | refine c_seq ?_ | refine x_then ?_ | refine l_skip rfl rfl ?_ | refine c_true rfl ?_ | refine c_ret ?_ | refine x_then_ret ?_ | refine l_dec_t rfl rfl rfl rfl rfl (by first | omega  | fail) ?_ | refine l_dec_f rfl rfl rfl rfl rfl (by first | omega  | fail) ?_  | fail)
    exact x_ret rfl rfl (by repeat (first | exact Res.nil | (apply Res.tmp; rfl) | (apply Res.cell; rfl; exact (by repeat (first | exact List.Mem.head _ | apply List.Mem.tail)); rfl; rfl))) rfl (fun W hW => ⟨by unfold acV; rw [accU_no fun g => by omega, h0], hW.below⟩)
  have hac := accU_is (n := N) (L := L) (C := C) (us := us) ⟨h0, by omega, by omega⟩
  rw [Int.toNat_natCast] at hac
  repeat (first | refine l_val rfl rfl (by first | exact pureEval_ok rfl  | fail) ?_ | refine l_dec_f rfl rfl rfl rfl rfl (by first | omega  | fail) ?_  | fail)
  refine r_call rfl rfl rfl (fun W hW => hcn _ _ W hW (by repeat (first | exact List.Mem.head _ | apply List.Mem.tail))) ?_
  by_cases hk : Kn L us
  rotate_left
  · rw [@decide_eq_true _ (Classical.propDecidable _) hk]
    repeat (first | refine l_val rfl rfl (by first | exact pureEval_ok rfl  | fail) ?_ | refine l_nil ?_ | refine c_region ?_ | refine c_seq ?_ | refine x_then ?_ | refine c_true rfl ?_ | refine c_ret ?_ | refine x_then_ret ?_  | fail)
    exact x_ret rfl rfl (by repeat (first | exact Res.nil | (apply Res.tmp; rfl) | (apply Res.cell; rfl; exact (by repeat (first | exact List.Mem.head _ | apply List.Mem.tail)); rfl; rfl))) rfl (fun W hW => ⟨by unfold acV; rw [hac, kn_no hk, h0], hW.below⟩)
  rw [@decide_eq_false _ (Classical.propDecidable _) (fun h2 : ¬ Kn L us => h2 hk)]
  have hlk : ∀ {k : Nat} {y : Us}, us[k]? = some y → 0 ≤ y.link ∧ ∃ x, L[y.link.toNat]? = some x := fun {k y} hy => by
    have h := hk y (List.mem_of_getElem? hy)
    exact ⟨h.1, _, List.getElem?_eq_getElem (by omega)⟩
  obtain ⟨ul, hul⟩ : ∃ u, us[us.length - 1]? = some u := ⟨_, List.getElem?_eq_getElem (by omega)⟩
  obtain ⟨g1, x1, g2⟩ := hlk hul
  have hle := last_red (C := C) (N := N) hul g1 g2
  obtain ⟨i1, i2, i3, i4⟩ := redU_in hT hF g2
  have hUl := hU
  obtain ⟨bq, oq, rfl, hcq⟩ := hUl (us.length - 1) (usE ul) (by simp [hul])
  have heq := ext_of hcq
  rw [show us.length - 1 = ((us.length : Int) - 1).toNat by omega] at heq
  repeat (first | refine l_val rfl rfl (v_loadW rfl (by repeat (first | exact List.Mem.head _ | apply List.Mem.tail)) rfl rfl treeL_len) ?_ | refine l_val rfl rfl (by first | exact pureEval_ok rfl | exact v_load rfl (by repeat (first | exact List.Mem.head _ | apply List.Mem.tail)) rfl (by rfl)  | fail) ?_ | refine l_nil ?_ | refine c_region ?_ | refine c_seq ?_ | refine x_then ?_ | refine c_false rfl ?_ | refine c_skip ?_  | fail)
  refine r_callL (ι := OfB) (v := fun b => b.v) (ms := fun b => [(b.g, Obj.cells ⟨[.func (.func 76) ⟨[]⟩ ⟨[.pointer (some ⟨b.u, 0, none⟩), .pointer (some ⟨b.t, 0, none⟩)]⟩]⟩ 135 (0, 0)), (b.mc, .cells ⟨[.map (some b.m)]⟩ 134 (0, 0)), (b.m, .map ⟨[]⟩ 0), (b.t, .cells ⟨theTree C N⟩ 82 (0, 0)), (b.u, .cells ⟨[.int .i64 N, .slice A L.length cap, .slice B C.length cab]⟩ 24 (0, 0))]) rfl rfl rfl (fun W hW => hst N _ W hW) ?_
  rintro ⟨bm, bmc, bu, bt, bg⟩
  unfold OfB.v
  simp only [List.cons_append, List.nil_append]
  repeat (first | refine l_val rfl rfl (by first | exact v_sub rfl rfl (by omega) (by omega) | exact pureEval_ok rfl | exact v_load_ext0 rfl (by assumption) rfl (by rfl) | exact v_index rfl rfl rfl rfl (by omega) (by omega) (by with_reducible first | exact idx8 _ _ _   | fail)  | fail) ?_ | refine l_nil ?_ | refine c_region ?_ | refine c_seq ?_ | refine x_then ?_  | fail)
  refine r_callvuI (ι := {m' : MEnt // ∀ e ∈ m'.es, EntU (redU C N L) e}) (b := bm) (o := .map ⟨[]⟩ 0) (o' := fun m' => .map ⟨m'.1.es⟩ m'.1.ck) (v := fun _ => .agg ⟨edE (redU C N L ul)⟩) rfl rfl rfl rfl rfl (by repeat (first | exact List.Mem.head _ | apply List.Mem.tail)) (fun _ => (by repeat (first | exact Upd.head | apply Upd.tail))) (fun W hW hmm => hof ⟨bm, bmc, bu, bt, bg⟩ N ul x1 ⟨[], 0⟩ W rfl h0 g1 g2 hW.same ⟨(hW.own (bmc, _) (by repeat (first | exact List.Mem.head _ | apply List.Mem.tail))).2, (hW.own (bu, _) (by repeat (first | exact List.Mem.head _ | apply List.Mem.tail))).2, (hW.own (bt, _) (by repeat (first | exact List.Mem.head _ | apply List.Mem.tail))).2, (hW.own (bg, _) (by repeat (first | exact List.Mem.head _ | apply List.Mem.tail))).2⟩ hmm (fun e he => by cases he)) ?_
  rintro ⟨m0, hm0⟩
  simp only
  unfold edE
  repeat (first | refine l_val rfl rfl (by first | exact pureEval_ok rfl  | fail) ?_ | refine l_nil ?_ | refine c_region ?_ | refine c_seq ?_ | refine x_then ?_ | refine c_block ?_  | fail)
  refine c_loop (ι := Nat × Nat × Int × MEnt) (fun p => p.1 ≤ us.length ∧ run (net C N L) (redU C N L ul).b 0 us = run (net C N L) p.2.1 p.2.2.1 (us.drop p.1) ∧ -(282574488338432 * (p.1 : Int)) ≤ p.2.2.1 ∧ p.2.2.1 ≤ 282574488338432 * (p.1 : Int) ∧ ∀ e ∈ p.2.2.2.es, EntU (redU C N L) e)
    (fun p => [(7, .func (.func 77) ⟨[]⟩ ⟨[.pointer (some ⟨bmc, 0, none⟩), .pointer (some ⟨bu, 0, none⟩), .pointer (some ⟨bt, 0, none⟩), .pointer (some ⟨bg, 0, none⟩)]⟩), (8, .int .i64 p.2.1), (9, .int .i64 p.2.2.1), (46, .slice (some ⟨bq, oq, none⟩) us.length capU), (47, .int .i64 us.length), (48, .int .i64 p.1)])
    (fun p => [(bg, Obj.cells ⟨[.func (.func 76) ⟨[]⟩ ⟨[.pointer (some ⟨bu, 0, none⟩), .pointer (some ⟨bt, 0, none⟩)]⟩]⟩ 135 (0, 0)), (bmc, .cells ⟨[.map (some bm)]⟩ 134 (0, 0)), (bm, .map ⟨p.2.2.2.es⟩ p.2.2.2.ck), (bt, .cells ⟨theTree C N⟩ 82 (0, 0)), (bu, .cells ⟨[.int .i64 N, .slice A L.length cap, .slice B C.length cab]⟩ 24 (0, 0))])
    (fun p => us.length - p.1) (0, (redU C N L ul).b, 0, m0) ⟨Nat.zero_le _, rfl, by simp, by simp, hm0⟩ (by repeat (first | exact EnvSub.nil | refine EnvSub.cons rfl (by first | rfl | (congr 1; done) | (exact congrArg (Value.int _) (by omega)) | (simp; done)) ?_)) (by repeat (first | exact MSub.nil | refine MSub.keep (by first | rfl | assumption) ?_ | refine MSub.drop ?_ | exact MSub.refl _)) ?_
  rintro ⟨k, at1, sm, m⟩ ⟨hk2, hrun, hs1, hs2, hme⟩
  simp only at hk2 hrun hs1 hs2 hme ⊢
  have hacc : accepts (net C N L) us = match run (net C N L) at1 sm (us.drop k) with | none => false | some s => decide (s < 0) := by unfold accepts; rw [hle, hrun]; cases run (net C N L) at1 sm (us.drop k) <;> rfl
  by_cases hlt : k < us.length
  · obtain ⟨y, hy⟩ : ∃ y, us[k]? = some y := ⟨_, List.getElem?_eq_getElem hlt⟩
    obtain ⟨q1, x2, q2⟩ := hlk hy
    obtain ⟨j1, j2, j3, j4⟩ := redU_in hT hF q2
    obtain ⟨bq', oq', e1, hcy⟩ := hU k (usE y) (by simp [hy])
    cases e1
    have hey := ext_of hcy
    have hdrop : us.drop k = y :: us.drop (k + 1) := by
      rw [List.drop_eq_getElem_cons hlt]
      rw [List.getElem?_eq_getElem hlt] at hy
      cases hy; rfl
    rw [hdrop, run_cons (step_red q1 q2)] at hacc hrun
    repeat (first | refine l_val rfl rfl (by first | exact pureEval_ok rfl | exact v_load rfl (by repeat (first | exact List.Mem.head _ | apply List.Mem.tail)) rfl (by rfl) | exact v_load_ext0 rfl (by assumption) rfl (by rfl) | exact v_index rfl rfl rfl rfl (by omega) (by omega) (by with_reducible first | exact idx4 _ _ _   | fail)  | fail) ?_ | refine l_nil ?_ | refine c_region ?_ | refine c_seq ?_ | refine x_then ?_ | refine r_alloc rfl rfl rfl (by first | exact aggL  | fail) (fun _ => ?_) | refine r_store rfl rfl rfl rfl rfl rfl rfl (by repeat (first | exact Upd.head | apply Upd.tail)) (by rfl) ?_ | refine c_dec_t rfl (by first | omega  | fail) ?_ | refine c_block ?_ | refine c_skip ?_  | fail)
    refine r_callvuI (ι := {m' : MEnt // ∀ e ∈ m'.es, EntU (redU C N L) e}) (b := bm) (o := .map ⟨m.es⟩ m.ck) (o' := fun m' => .map ⟨m'.1.es⟩ m'.1.ck) (v := fun _ => .agg ⟨edE (redU C N L y)⟩) rfl rfl rfl rfl rfl (by repeat (first | exact List.Mem.head _ | apply List.Mem.tail)) (fun _ => (by repeat (first | exact Upd.head | apply Upd.tail))) (fun W hW hmm => hof ⟨bm, bmc, bu, bt, bg⟩ N y x2 m W rfl h0 q1 q2 hW.same ⟨(hW.own (bmc, _) (by repeat (first | exact List.Mem.head _ | apply List.Mem.tail))).2, (hW.own (bu, _) (by repeat (first | exact List.Mem.head _ | apply List.Mem.tail))).2, (hW.own (bt, _) (by repeat (first | exact List.Mem.head _ | apply List.Mem.tail))).2, (hW.own (bg, _) (by repeat (first | exact List.Mem.head _ | apply List.Mem.tail))).2⟩ hmm hme) ?_
    rintro ⟨m', hm'⟩
    simp only
    unfold edE
    by_cases hat : (redU C N L y).a = at1
    · rw [if_pos hat] at hacc hrun
      repeat (first | refine l_val rfl rfl (by first | exact v_add rfl rfl (by omega) (by omega) | exact pureEval_ok rfl | exact v_load rfl (by repeat (first | exact List.Mem.head _ | apply List.Mem.tail)) rfl (by rfl)  | fail) ?_ | refine l_nil ?_ | refine c_region ?_ | refine c_seq ?_ | refine x_then ?_ | refine r_alloc rfl rfl rfl (by first | exact aggL  | fail) (fun _ => ?_) | refine r_store rfl rfl rfl rfl rfl rfl rfl (by repeat (first | exact Upd.head | apply Upd.tail)) (by rfl) ?_ | refine c_dec_f rfl (by first | omega  | fail) ?_ | refine c_skip ?_ | refine x_block ?_ | refine c_reads rfl (by decide +kernel) ?_ | refine q_val rfl rfl (by first | exact v_add rfl rfl (by omega) (by omega) | exact pureEval_ok rfl | exact v_load rfl (by repeat (first | exact List.Mem.head _ | apply List.Mem.tail)) rfl (by rfl)  | fail) ?_ | refine q_nil ?_  | fail)
      exact x_back (k + 1, (redU C N L y).b, sm + (redU C N L y).w, m') ⟨hlt, hrun, by simp only; omega, by simp only; omega, hm'⟩ (by simp only; omega) (by repeat (first | exact EnvSub.nil | refine EnvSub.cons rfl (by first | rfl | (congr 1; done) | (exact congrArg (Value.int _) (by omega)) | (simp; done)) ?_)) (by repeat (first | exact MSub.nil | refine MSub.keep (by first | rfl | assumption) ?_ | refine MSub.drop ?_ | exact MSub.refl _))
    · rw [if_neg hat] at hacc
      repeat (first | refine l_val rfl rfl (by first | exact pureEval_ok rfl | exact v_load rfl (by repeat (first | exact List.Mem.head _ | apply List.Mem.tail)) rfl (by rfl)  | fail) ?_ | refine l_nil ?_ | refine c_region ?_ | refine c_seq ?_ | refine x_then ?_ | refine r_alloc rfl rfl rfl (by first | exact aggL  | fail) (fun _ => ?_) | refine r_store rfl rfl rfl rfl rfl rfl rfl (by repeat (first | exact Upd.head | apply Upd.tail)) (by rfl) ?_ | refine c_dec_t rfl (by first | omega  | fail) ?_ | refine c_ret ?_ | refine x_then_ret ?_ | refine x_block_ret ?_  | fail)
      exact x_ret rfl rfl (by repeat (first | exact Res.nil | (apply Res.tmp; rfl) | (apply Res.cell; rfl; exact (by repeat (first | exact List.Mem.head _ | apply List.Mem.tail)); rfl; rfl))) rfl (fun W hW => ⟨by unfold acV; rw [hac, hacc, h0], hW.below⟩)
  · have hke : k = us.length := by omega
    subst hke
    rw [List.drop_length] at hacc
    have hac2 : accepts (net C N L) us = decide (sm < 0) := hacc
    repeat (first | refine l_val rfl rfl (by first | exact pureEval_ok rfl  | fail) ?_ | refine l_nil ?_ | refine c_region ?_ | refine c_seq ?_ | refine x_then ?_ | refine c_dec_f rfl (by first | omega  | fail) ?_ | refine c_ret ?_ | refine c_exit ?_ | refine x_then_exit ?_ | refine x_block_same ?_  | fail)
    exact x_ret rfl rfl (by repeat (first | exact Res.nil | (apply Res.tmp; rfl) | (apply Res.cell; rfl; exact (by repeat (first | exact List.Mem.head _ | apply List.Mem.tail)); rfl; rfl))) rfl (fun W hW => ⟨by unfold acV; rw [hac, hac2, h0], hW.below⟩)
end R23
end Go.Proofs

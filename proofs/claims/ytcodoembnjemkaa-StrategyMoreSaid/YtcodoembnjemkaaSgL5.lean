/- Games on networks: the law More, walked. -/
import Derived.Test.YtcodoembnjemkaaSgSan
import Derived.Test.YtcodoembnjemkaaSgPly
set_option linter.unusedSectionVars false
set_option linter.unusedVariables false
set_option linter.unusedSimpArgs false
namespace Go.Proofs
open Go.RowKit Go.Kin Go.Kin.St Go.Kin.Ct Go.Kin.Sg
namespace R24
theorem lk_len (l : List Lk) : ∀ r ∈ l.map lkE, r.length = 4 := fun r hr => by obtain ⟨x, _, rfl⟩ := List.mem_map.1 hr; rfl
/-- the cells of a slice that came in -/
theorem at_flat {w : World} {A : Option Addr} {l : List Lk} (hA : At w A 4 (l.map lkE)) (h : l ≠ []) : ∃ b o, A = some ⟨b, o, none⟩ ∧ Ext w (base w) b o (l.map lkE).flatten := by
  obtain ⟨x, l', rfl⟩ := List.exists_cons_of_ne_nil h
  obtain ⟨b, o, rfl, hc⟩ := hA 0 (lkE x) rfl
  refine ⟨b, o, rfl, ?_, fun i v hi => ?_⟩
  · have := hc 0 _ rfl
    exact lt_of_cell this
  · have hlen := flatten_len (lk_len (x :: l'))
    have hlt : i < 4 * ((x :: l').map lkE).length := by
      have := (List.getElem?_eq_some_iff.1 hi).1
      rw [hlen] at this; omega
    have hq : i / 4 < ((x :: l').map lkE).length := by omega
    obtain ⟨b', o', e, hc'⟩ := hA (i / 4) _ (List.getElem?_eq_getElem hq)
    cases e
    have hr := rowAt_flatten (rest := []) (lk_len (x :: l')) (List.getElem?_eq_getElem hq)
    have hrl := lk_len (x :: l') _ (List.getElem_mem hq)
    have h1 : ((x :: l').map lkE)[i / 4][i % 4]? = some v := by
      have hm : i % 4 < ((x :: l').map lkE)[i / 4].length := by rw [hrl]; omega
      rw [List.getElem?_eq_getElem hm]
      have h2 := hr.get (List.getElem?_eq_getElem hm)
      rw [List.append_nil, show i / 4 * 4 + i % 4 = i by omega, hi] at h2
      exact h2.symm
    have h3 := hc' _ _ h1
    rw [show o + i / 4 * 4 + i % 4 = o + i by omega] at h3
    exact h3
theorem lk_one (l : List Lk) : ∀ v ∈ (l.map lkE).flatten, v.oneCell' = true := by
  intro v hv
  obtain ⟨r, hr, hv⟩ := List.mem_flatten.1 hv
  obtain ⟨x, _, rfl⟩ := List.mem_map.1 hr
  simp only [lkE, List.mem_cons, List.not_mem_nil, or_false] at hv
  rcases hv with rfl | rfl | rfl | rfl <;> rfl
theorem lk_flat_len (l : List Lk) : (l.map lkE).flatten.length = l.length * 4 := by rw [flatten_len (lk_len l), List.length_map]
theorem flat_get {l : List Lk} {r : List Value} {i j : Nat} {x : Lk} {v : Value} (hx : l[i]? = some x) (hv : (lkE x)[j]? = some v) : ((l.map lkE).flatten ++ r)[i * 4 + j]? = some v :=
  (rowAt_flatten (lk_len l) (by rw [List.getElem?_map, hx]; rfl)).get hv
theorem flat_set {r : List Value} {v : Value} {j : Nat} (hj : j < 4) : ∀ {l : List Lk} {i : Nat} {x y : Lk}, l[i]? = some x → lkE y = (lkE x).set j v → ((l.map lkE).flatten ++ r).set (i * 4 + j) v = ((l.set i y).map lkE).flatten ++ r
  | [], i, x, y, hx, _ => by simp at hx
  | z :: l, 0, x, y, hx, hy => by
    simp only [List.getElem?_cons_zero, Option.some.injEq] at hx
    subst hx
    rw [List.map_cons, List.flatten_cons, List.append_assoc, List.set_append_left _ _ (by show 0 * 4 + j < 4; omega), Nat.zero_mul, Nat.zero_add, ← hy, List.set_cons_zero, List.map_cons, List.flatten_cons, List.append_assoc]
  | z :: l, i + 1, x, y, hx, hy => by
    simp only [List.getElem?_cons_succ] at hx
    rw [List.map_cons, List.flatten_cons, List.append_assoc, List.set_append_right _ _ (by show 4 ≤ _; omega), show (i + 1) * 4 + j - (lkE z).length = i * 4 + j by show (i + 1) * 4 + j - 4 = _; omega, flat_set hj hx hy, List.set_cons_succ, List.map_cons, List.flatten_cons, List.append_assoc]
def widK (lo hi : Int) (x : Lk) : Lk := ⟨x.fr, x.to, max (-1099511627776) (x.lo - lo % 4), min 1099511627776 (x.hi + hi % 4)⟩
def widL (which lo hi : Int) (L : List Lk) : List Lk := match L[(which % (L.length : Int)).toNat]? with
  | some x => L.set (which % (L.length : Int)).toNat (widK lo hi x)
  | none => L
def narK (lo hi : Int) (x : Lk) : Lk := ⟨x.fr, x.to, min x.hi (x.lo + hi % 2), max (min x.hi (x.lo + hi % 2)) (x.hi - lo % 2)⟩
def narL (which lo hi : Int) (C : List Lk) : List Lk := match C[(which % (C.length : Int)).toNat]? with
  | some x => C.set (which % (C.length : Int)).toNat (narK lo hi x)
  | none => C
theorem all2_same {α : Type} {R : α → α → Prop} : ∀ {l : List α}, (∀ x ∈ l, R x x) → All2 R l l
  | [], _ => .nil
  | x :: l, h => .cons (h x List.mem_cons_self) (all2_same fun y hy => h y (List.mem_cons_of_mem _ hy))
theorem all2_set {α : Type} {R : α → α → Prop} : ∀ {l : List α} {i : Nat} {y : α}, (∀ x ∈ l, R x x) → (∀ x, l[i]? = some x → R x y) → All2 R l (l.set i y)
  | [], _, _, _, _ => .nil
  | x :: l, 0, y, h, hy => .cons (hy x rfl) (all2_same fun z hz => h z (List.mem_cons_of_mem _ hz))
  | x :: l, i + 1, y, h, hy => .cons (h x List.mem_cons_self) (all2_set (fun z hz => h z (List.mem_cons_of_mem _ hz)) fun z hz => hy z (by simpa using hz))
theorem wid_all {N : Int} {L : List Lk} {which lo hi : Int} (hF : ∀ x ∈ L, x.Fine N) (hlo : 0 ≤ lo) (hhi : 0 ≤ hi) : All2 Wid L (widL which lo hi L) := by
  have hs : ∀ x ∈ L, Wid x x := fun x _ => ⟨rfl, rfl, Int.le_refl _, Int.le_refl _⟩
  unfold widL
  split
  · rename_i x hx
    refine all2_set hs fun z hz => ?_
    rw [hx] at hz; cases hz
    obtain ⟨_, _, _, _, _, x1, x2, x3⟩ := hF x (List.mem_of_getElem? hx)
    exact ⟨rfl, rfl, by show max (-1099511627776) (x.lo - lo % 4) ≤ x.lo; omega, by show x.hi ≤ min 1099511627776 (x.hi + hi % 4); omega⟩
  · exact all2_same hs
theorem nar_all {N : Int} {C : List Lk} {which lo hi : Int} (hF : ∀ x ∈ C, Cal N x) (h1 : ∀ x ∈ C, 1 ≤ x.lo) (hlo : 0 ≤ lo) (hhi : 0 ≤ hi) : All2 Nar C (narL which lo hi C) := by
  have hs : ∀ x ∈ C, Nar x x := fun x hx => ⟨rfl, rfl, Int.le_refl _, Int.le_refl _, h1 x hx, (hF x hx).2.2.2.2.2.2.1⟩
  unfold narL
  split
  · rename_i x hx
    refine all2_set hs fun z hz => ?_
    rw [hx] at hz; cases hz
    obtain ⟨_, _, _, _, _, x1, x2, x3⟩ := hF x (List.mem_of_getElem? hx)
    have := h1 x (List.mem_of_getElem? hx)
    refine ⟨rfl, rfl, ?_, ?_, ?_, ?_⟩
    · show x.lo ≤ min x.hi (x.lo + hi % 2); omega
    · show max (min x.hi (x.lo + hi % 2)) (x.hi - lo % 2) ≤ x.hi; omega
    · show 1 ≤ min x.hi (x.lo + hi % 2); omega
    · show min x.hi (x.lo + hi % 2) ≤ max (min x.hi (x.lo + hi % 2)) (x.hi - lo % 2); omega
  · exact all2_same hs
set_option maxRecDepth 100000 in
set_option maxHeartbeats 400000000 in
theorem law5 (u : R23.Un) (T more which lo hi : Int) (w : World) (hA : u.In w) (hT : -9223372036854775808 ≤ T ∧ T ≤ 9223372036854775807) (hm : 0 ≤ more ∧ more ≤ 255) (hw : 0 ≤ which ∧ which ≤ 255) (hlo : 0 ≤ lo ∧ lo ≤ 255) (hhi : 0 ≤ hi ∧ hi ≤ 255) :
    Calls Try.prog 5 ⟨[.agg ⟨u.v⟩, .int .i64 T, .int .u8 more, .int .u8 which, .int .u8 lo, .int .u8 hi]⟩ w fun e w' => e = .returned (.bool true) ∧ Below w.heap.size w w' := by
  have hfew : ∀ (mem : List (Nat × Obj)) (W : World), SatW w (base w) noJ mem W → Calls Try.prog 9 ⟨[.agg ⟨u.v⟩, .int .i64 T]⟩ W fun e w' => e = .returned (.bool (fwB u.n u.L u.C T)) ∧ Below W.heap.size W w' := fun mem W hW => FewS_calls u T W (hA.sat hW)
  have hck : u.L.length ≤ 1000 → u.C.length ≤ 1000 → ∀ (mem : List (Nat × Obj)) (W : World), SatW w (base w) noJ mem W → Calls Try.prog 13 ⟨[.agg ⟨u.v⟩, .int .i64 T]⟩ W fun e w' => e = .returned (.int .i64 (chkS u.n u.L u.C T)) ∧ Below W.heap.size W w' := fun hl hc mem W hW => CheckS_calls u T W (hA.sat hW) hl hc
  have hAA : ∀ (mem : List (Nat × Obj)) (W : World), SatW w (base w) noJ mem W → u.In W := fun mem W hW => hA.sat hW
  have hAl := hA.l
  have hAc := hA.c
  obtain ⟨n, A, ca, L, B, cb, C⟩ := u
  simp only [R23.Un.v] at hfew hck ⊢
  simp only at hAl hAc
  refine fun_enter Try.func5 rfl Try.ntmps5 rfl rfl (satW_nil w) ?_
  repeat (first | refine l_val rfl rfl (by first | exact pureEval_ok rfl  | fail) ?_ | refine l_nil ?_ | refine c_region ?_ | refine c_seq ?_ | refine x_then ?_ | refine r_box rfl rfl rfl rfl (fun _ => ?_)  | fail)
  refine r_call rfl rfl rfl (fun W hW => sane_calls W) ?_
  repeat (first | refine l_val rfl rfl (by first | exact pureEval_ok rfl | exact v_load rfl (by repeat (first | exact List.Mem.head _ | apply List.Mem.tail)) rfl (by rfl)  | fail) ?_ | refine l_nil ?_ | refine c_region ?_ | refine c_seq ?_ | refine x_then ?_ | refine c_false rfl ?_ | refine c_skip ?_  | fail)
  refine r_call rfl rfl rfl (fun W hW => hfew _ W hW) ?_
  cases hf : fwB n L C T with
  | false =>
    repeat (first | refine l_val rfl rfl (by first | exact pureEval_ok rfl | exact v_load rfl (by repeat (first | exact List.Mem.head _ | apply List.Mem.tail)) rfl (by rfl)  | fail) ?_ | refine l_nil ?_ | refine c_region ?_ | refine c_seq ?_ | refine x_then ?_ | refine l_skip rfl rfl ?_ | refine c_true rfl ?_ | refine c_ret ?_ | refine x_then_ret ?_  | fail)
    exact x_ret rfl rfl (by repeat (first | exact Res.nil | (apply Res.tmp; rfl) | (apply Res.cell; rfl; exact (by repeat (first | exact List.Mem.head _ | apply List.Mem.tail)); rfl; rfl))) rfl (fun W hW => ⟨rfl, hW.below⟩)
  | true =>
  obtain ⟨hl, hc, hfw⟩ := fwB_ok hf
  have hck := hck (by omega) (by omega)
  repeat (first | refine l_val rfl rfl (by first | exact pureEval_ok rfl | exact v_load rfl (by repeat (first | exact List.Mem.head _ | apply List.Mem.tail)) rfl (by rfl)  | fail) ?_  | fail)
  refine r_call rfl rfl rfl (fun W hW => hck _ W hW) ?_
  by_cases h0 : chkS n L C T = 0
  rotate_left
  · repeat (first | refine l_val rfl rfl (by first | exact pureEval_ok rfl  | fail) ?_ | refine l_nil ?_ | refine c_region ?_ | refine c_seq ?_ | refine x_then ?_ | refine c_dec_t rfl (by first | omega  | fail) ?_ | refine c_ret ?_ | refine x_then_ret ?_  | fail)
    exact x_ret rfl rfl (by repeat (first | exact Res.nil | (apply Res.tmp; rfl) | (apply Res.cell; rfl; exact (by repeat (first | exact List.Mem.head _ | apply List.Mem.tail)); rfl; rfl))) rfl (fun W hW => ⟨rfl, hW.below⟩)
  rw [h0]
  obtain ⟨k0, t1, t2, t3, t4, t5⟩ := chkS_ok h0
  obtain ⟨n1, n2⟩ := R23.chkU_ok k0
  obtain ⟨t, rfl⟩ : ∃ t : Nat, T = t := ⟨T.toNat, by omega⟩
  obtain ⟨N, rfl⟩ : ∃ N : Nat, n = N := ⟨n.toNat, by omega⟩
  have hfw2 := hfw h0
  have hFine : ∀ x ∈ L, x.Fine N := n2.2.2.2.1
  have hCal : ∀ x ∈ C, Cal N x := n2.2.2.2.2.cal
  rw [Int.toNat_natCast, Int.toNat_natCast] at hfw2
  repeat (first | refine l_val rfl rfl (by first | exact pureEval_ok rfl | exact v_load rfl (by repeat (first | exact List.Mem.head _ | apply List.Mem.tail)) rfl (by rfl)  | fail) ?_ | refine l_nil ?_ | refine c_region ?_ | refine c_seq ?_ | refine x_then ?_ | refine c_false rfl ?_ | refine c_skip ?_  | fail)
  by_cases hv : Vt ⟨N, t, L, C⟩ 0 (List.replicate N 0)
  rotate_left
  · refine r_call (v := noS 0) rfl rfl rfl (fun W hW => (Solve_calls N t A B ca cb L C W (hAA _ W hW) (by omega) (by omega) h0 hfw2).mono fun e w' h => sol_no hv h) ?_
    repeat (first | refine l_val rfl rfl (by first | exact pureEval_ok rfl  | fail) ?_ | refine l_nil ?_ | refine c_region ?_ | refine c_seq ?_ | refine x_then ?_ | refine c_true rfl ?_ | refine c_false rfl ?_ | refine c_skip ?_ | refine c_ret ?_ | refine x_then_ret ?_  | fail)
    exact x_ret rfl rfl (by repeat (first | exact Res.nil | (apply Res.tmp; rfl) | (apply Res.cell; rfl; exact (by repeat (first | exact List.Mem.head _ | apply List.Mem.tail)); rfl; rfl))) rfl (fun W hW => ⟨rfl, hW.below⟩)
  refine r_callL (ι := { i : SolI // i.OK ⟨N, t, L, C⟩ (adD ⟨N, t, L, C⟩) (nxD ⟨N, t, L, C⟩) }) (v := fun i => yesS i.1) (ms := fun i => i.1.m) rfl rfl rfl (fun W hW => (Solve_calls N t A B ca cb L C W (hAA _ W hW) (by omega) (by omega) h0 hfw2).mono fun e w' h => sol_yes hv h) ?_
  rintro ⟨i1, hi1⟩
  simp only
  refine l_perm List.perm_append_comm ?_
  simp only [List.cons_append, List.nil_append]
  repeat ((fail_if_success refine c_probe (id := 12) ?_); (fail_if_success refine c_probe1 (id := 12) ?_); first | refine r_alloc rfl rfl rfl rfl (fun _ => ?_) | refine l_val rfl rfl (v_rem (n := 3) rfl rfl (by omega) (by omega)) ?_ | refine l_val rfl rfl (by first | exact v_add rfl rfl (by omega) (by omega) | exact v_iconv rfl rfl rfl (by omega) (by omega) | exact pureEval_ok rfl | exact v_load rfl (by repeat (first | exact List.Mem.head _ | apply List.Mem.tail)) rfl (by rfl)  | fail) ?_ | refine l_nil ?_ | refine c_region ?_ | refine c_seq ?_ | refine x_then ?_ | refine r_store rfl rfl rfl rfl rfl rfl rfl (by repeat (first | exact Upd.head | apply Upd.tail)) (by rfl) ?_ | refine c_false rfl ?_ | refine c_skip ?_  | fail)
  rename_i b6 b17
  obtain ⟨m3, hm3⟩ : ∃ m3 : Nat, more % 3 = (m3 : Int) := ⟨(more % 3).toNat, by omega⟩
  rw [hm3]
  refine c_sub [_, _] (List.sublist_append_left [_, _] _) ?_
  refine c_seq ?_
  refine c_new 1 4 [(0, .new 1), (3, .app 2 (some 1) 4), (4, .new 3), (7, .app 4 (some 3) 4), (9, .sto 0 1 1), (11, .sto 0 2 1)] [(0, [1]), (3, [2, 1]), (4, [3]), (7, [4, 3]), (9, [0]), (11, [0])] [(3, 1), (7, 3)] rfl (by decide +kernel) rfl ?_
  repeat (first | refine e_val rfl rfl rfl rfl (by first | exact pureEval_ok rfl | exact v_load rfl (by repeat (first | exact List.Mem.head _ | apply List.Mem.tail)) rfl (by rfl)  | fail) ?_ | refine e_new rfl rfl rfl rfl (by first | exact n_buildSlice rfl rfl rfl rfl (by rfl)  | fail) (fun _ => ?_)  | fail)
  refine e_app (xs := (L.map lkE).flatten) (n := L.length) (e := 43) rfl rfl rfl rfl rfl (by decide) (lk_flat_len L) (by unfold maxLen; omega) rfl ?_ (fun bL cL rL hgL => ?_)
  · by_cases hn : L = []
    · subst hn
      exact a_append0 (rest := []) rfl rfl rfl rfl (by repeat (first | exact List.Mem.head _ | apply List.Mem.tail)) ⟨rfl, rfl, Nat.le_refl _, Nat.zero_le _⟩
    · obtain ⟨bA, oA, rfl, hE⟩ := at_flat hAl hn
      exact a_append (xs := []) (rest := []) rfl rfl rfl rfl (news_ext hE) (by repeat (first | exact List.Mem.head _ | apply List.Mem.tail)) ⟨rfl, rfl, Nat.le_refl _, Nat.zero_le _⟩ (lk_flat_len L) (lk_one L) rfl (Nat.zero_add _) (by omega) (by unfold maxLen; omega)
  repeat (first | refine e_val rfl rfl rfl rfl (by first | exact pureEval_ok rfl | exact v_load rfl (by repeat (first | exact List.Mem.head _ | apply List.Mem.tail)) rfl (by rfl)  | fail) ?_ | refine e_new rfl rfl rfl rfl (by first | exact n_buildSlice rfl rfl rfl rfl (by rfl)  | fail) (fun _ => ?_)  | fail)
  refine e_app (xs := (C.map lkE).flatten) (n := C.length) (e := 43) rfl rfl rfl rfl rfl (by decide) (lk_flat_len C) (by unfold maxLen; omega) rfl ?_ (fun bC cC rC hgC => ?_)
  · by_cases hn : C = []
    · subst hn
      exact a_append0 (rest := []) rfl rfl rfl rfl (by repeat (first | exact List.Mem.head _ | apply List.Mem.tail)) ⟨rfl, rfl, Nat.le_refl _, Nat.zero_le _⟩
    · obtain ⟨bA, oA, rfl, hE⟩ := at_flat hAc hn
      exact a_append (xs := []) (rest := []) rfl rfl rfl rfl (news_ext hE) (by repeat (first | exact List.Mem.head _ | apply List.Mem.tail)) ⟨rfl, rfl, Nat.le_refl _, Nat.zero_le _⟩ (lk_flat_len C) (lk_one C) rfl (Nat.zero_add _) (by omega) (by unfold maxLen; omega)
  repeat ((fail_if_success refine c_probe (id := 14) ?_); (fail_if_success refine c_probe1 (id := 14) ?_); first | refine l_val rfl rfl (by first | exact pureEval_ok rfl | exact v_load rfl (by repeat (first | exact List.Mem.head _ | apply List.Mem.tail)) rfl (by rfl)  | fail) ?_ | refine l_nil ?_ | refine c_region ?_ | refine c_seq ?_ | refine x_then ?_ | refine e_val rfl rfl rfl rfl (by first | exact pureEval_ok rfl  | fail) ?_ | refine e_store rfl rfl rfl rfl rfl rfl rfl rfl (by first | rfl  | fail) rfl rfl (by first | (simp; done)  | fail) (by first | exact splice_lit (by rfl)  | fail) ?_ | refine e_nil rfl ?_  | fail)
  refine c_seq ?_
  refine c_region ?_
  refine l_val rfl rfl (pureEval_ok rfl) ?_
  refine l_val rfl rfl (pureEval_ok rfl) ?_
  refine l_nil ?_
  refine x_then ?_
  refine c_share [(1, .int .i64 t), (3, .int .u8 which), (4, .int .u8 lo), (5, .int .u8 hi), (16, .int .i64 (t + m3)), (17, .pointer (some ⟨b17, 0, none⟩))]
    [(b17, .cells ⟨[.int .i64 N, .slice (some ⟨bL, 0, none⟩) L.length cL, .slice (some ⟨bC, 0, none⟩) C.length cC]⟩ 24 (0, 0)), (bL, .cells ⟨((widL which lo hi L).map lkE).flatten ++ rL⟩ 43 (0, 0)), (bC, .cells ⟨(C.map lkE).flatten ++ rC⟩ 43 (0, 0))] ?_ (fun hsh => ?_)
  rotate_left
  · by_cases hne : L = []
    · subst hne
      repeat (first | exact hsh (by repeat (first | exact EnvSub.nil | refine EnvSub.cons rfl (by first | rfl | (congr 1; done) | (exact congrArg (Value.int _) (by omega)) | (simp; done)) ?_)) (by repeat (first | exact MSub.nil | refine MSub.keep (by first | rfl | assumption) ?_ | refine MSub.drop ?_ | exact MSub.refl _)) | refine c_false rfl ?_ | refine c_skip ?_  | fail)
    · have hL0 : 0 < (L.length : Int) := by have := List.length_pos_iff.2 hne; omega
      obtain ⟨i, hiw⟩ : ∃ i : Nat, which % (L.length : Int) = (i : Int) := ⟨(which % (L.length : Int)).toNat, by have := Int.emod_nonneg which (show (L.length : Int) ≠ 0 by omega); omega⟩
      have hil : i < L.length := by have := Int.emod_lt_of_pos which hL0; omega
      obtain ⟨x, hx⟩ : ∃ x, L[i]? = some x := ⟨_, List.getElem?_eq_getElem hil⟩
      have hti : (which % (L.length : Int)).toNat = i := by omega
      have hwd : widL which lo hi L = L.set i (widK lo hi x) := by unfold widL; rw [hti, hx]
      obtain ⟨y, hy⟩ : ∃ y : Lk, y = ⟨x.fr, x.to, max (-1099511627776) (x.lo - lo % 4), x.hi⟩ := ⟨_, rfl⟩
      have hss : (L.set i y).set i (widK lo hi x) = widL which lo hi L := by rw [List.set_set, hwd]
      have g2 : ((L.map lkE).flatten ++ rL)[i * 4 + 2]? = some (.int .i64 x.lo) := flat_get hx rfl
      have g3 : ((L.map lkE).flatten ++ rL)[i * 4 + 3]? = some (.int .i64 x.hi) := flat_get hx rfl
      obtain ⟨_, _, _, _, _, x1, x2, x3⟩ := hFine x (List.mem_of_getElem? hx)
      repeat ((fail_if_success refine c_probe (id := 16) ?_); (fail_if_success refine c_probe1 (id := 16) ?_); first | refine q_val rfl rfl (v_rem rfl rfl (by omega) (by omega)) ?_ | refine c_seq ?_ | refine x_then ?_ | refine c_dec_t rfl (by first | omega  | fail) ?_ | refine c_reads rfl (by decide +kernel) ?_ | refine q_val rfl rfl (by first | exact v_iconv rfl rfl rfl (by omega) (by omega) | exact pureEval_ok rfl | exact v_load rfl (by repeat (first | exact List.Mem.head _ | apply List.Mem.tail)) rfl (by rfl) | exact v_index rfl rfl rfl rfl (by omega) (by omega) (by with_reducible first | exact idx7 _ _   | fail)  | fail) ?_ | refine q_nil ?_  | fail)
      rw [hti]
      refine c_perm (List.Perm.swap _ _ _) ?_
      refine c_new 1 0 [(22, .sto 0 (i * 4 + 2) 1), (25, .sto 0 (i * 4 + 3) 1)] [(22, [0]), (25, [0])] [(5, 0), (14, 0)] rfl (by decide +kernel) rfl ?_
      repeat (first | refine e_val rfl rfl rfl rfl (v_load_at rfl (by repeat (first | exact List.Mem.head _ | apply List.Mem.tail)) rfl rfl g2) ?_ | refine e_val rfl rfl rfl rfl (v_load_at rfl (by repeat (first | exact List.Mem.head _ | apply List.Mem.tail)) rfl rfl g3) ?_ | refine e_val rfl rfl rfl rfl (v_rem (n := 4) rfl rfl (by omega) (by omega)) ?_ | refine e_val rfl rfl rfl rfl (by first | exact v_add rfl rfl (by omega) (by omega) | exact v_sub rfl rfl (by omega) (by omega) | exact v_iconv rfl rfl rfl (by omega) (by omega) | exact pureEval_ok rfl  | fail) ?_  | fail)
      refine e_store rfl rfl rfl rfl rfl rfl rfl rfl rfl rfl rfl (by rw [List.length_append, lk_flat_len]; omega) (splice_one (by rw [List.length_append, lk_flat_len]; omega) (flat_set (y := y) (by decide) hx (by rw [hy]; rfl))) ?_
      repeat (first | refine e_val rfl rfl rfl rfl (by first | exact pureEval_ok rfl  | fail) ?_  | fail)
      refine e_store rfl rfl rfl rfl rfl rfl rfl rfl rfl rfl rfl (by rw [List.length_append, lk_flat_len, List.length_set]; omega) (splice_one (by rw [List.length_append, lk_flat_len, List.length_set]; omega) (flat_set (x := y) (y := widK lo hi x) (by decide) (by rw [List.getElem?_set_self hil]) (by rw [hy]; rfl))) ?_
      rw [hss]
      refine e_nil rfl ?_
      refine x_perm (List.Perm.swap _ _ _) ?_
      exact hsh (by repeat (first | exact EnvSub.nil | refine EnvSub.cons rfl (by first | rfl | (congr 1; done) | (exact congrArg (Value.int _) (by omega)) | (simp; done)) ?_)) (by repeat (first | exact MSub.nil | refine MSub.keep (by first | rfl | assumption) ?_ | refine MSub.drop ?_ | exact MSub.refl _))
  have hwl : (widL which lo hi L).length = L.length := by unfold widL; split <;> simp
  have hnl : (narL which lo hi C).length = C.length := by unfold narL; split <;> simp
  repeat ((fail_if_success refine c_probe (id := 18) ?_); (fail_if_success refine c_probe1 (id := 18) ?_); first | refine l_val rfl rfl (by first | exact pureEval_ok rfl | exact v_load rfl (by repeat (first | exact List.Mem.head _ | apply List.Mem.tail)) rfl (by rfl)  | fail) ?_ | refine l_nil ?_ | refine c_region ?_ | refine c_seq ?_ | refine x_then ?_  | fail)
  refine c_seq ?_
  refine c_region ?_
  refine l_val rfl rfl (pureEval_ok rfl) ?_
  refine l_val rfl rfl (pureEval_ok rfl) ?_
  refine l_nil ?_
  refine x_then ?_
  refine c_share [(1, .int .i64 t), (16, .int .i64 (t + m3)), (17, .pointer (some ⟨b17, 0, none⟩))]
    [(b17, .cells ⟨[.int .i64 N, .slice (some ⟨bL, 0, none⟩) L.length cL, .slice (some ⟨bC, 0, none⟩) C.length cC]⟩ 24 (0, 0)), (bL, .cells ⟨((widL which lo hi L).map lkE).flatten ++ rL⟩ 43 (0, 0)), (bC, .cells ⟨((narL which lo hi C).map lkE).flatten ++ rC⟩ 43 (0, 0))] ?_ (fun hsh => ?_)
  rotate_left
  · by_cases hne : C = []
    · subst hne
      repeat (first | exact hsh (by repeat (first | exact EnvSub.nil | refine EnvSub.cons rfl (by first | rfl | (congr 1; done) | (exact congrArg (Value.int _) (by omega)) | (simp; done)) ?_)) (by repeat (first | exact MSub.nil | refine MSub.keep (by first | rfl | assumption) ?_ | refine MSub.drop ?_ | exact MSub.refl _)) | refine c_false rfl ?_ | refine c_skip ?_  | fail)
    · have hL0 : 0 < (C.length : Int) := by have := List.length_pos_iff.2 hne; omega
      obtain ⟨i, hiw⟩ : ∃ i : Nat, which % (C.length : Int) = (i : Int) := ⟨(which % (C.length : Int)).toNat, by have := Int.emod_nonneg which (show (C.length : Int) ≠ 0 by omega); omega⟩
      have hil : i < C.length := by have := Int.emod_lt_of_pos which hL0; omega
      obtain ⟨x, hx⟩ : ∃ x, C[i]? = some x := ⟨_, List.getElem?_eq_getElem hil⟩
      have hti : (which % (C.length : Int)).toNat = i := by omega
      have hwd : narL which lo hi C = C.set i (narK lo hi x) := by unfold narL; rw [hti, hx]
      obtain ⟨_, _, _, _, _, x1, x2, x3⟩ := hCal x (List.mem_of_getElem? hx)
      repeat ((fail_if_success refine c_probe (id := 20) ?_); (fail_if_success refine c_probe1 (id := 20) ?_); first | refine q_val rfl rfl (v_rem rfl rfl (by omega) (by omega)) ?_ | refine c_seq ?_ | refine x_then ?_ | refine c_dec_t rfl (by first | omega  | fail) ?_ | refine c_reads rfl (by decide +kernel) ?_ | refine q_val rfl rfl (by first | exact v_iconv rfl rfl rfl (by omega) (by omega) | exact pureEval_ok rfl | exact v_load rfl (by repeat (first | exact List.Mem.head _ | apply List.Mem.tail)) rfl (by rfl) | exact v_index rfl rfl rfl rfl (by omega) (by omega) (by with_reducible first | exact idx7 _ _   | fail)  | fail) ?_ | refine q_nil ?_  | fail)
      rw [hti]
      obtain ⟨lo', hlo'⟩ : ∃ lo', min x.hi (x.lo + hi % 2) = lo' := ⟨_, rfl⟩
      obtain ⟨hi', hhi'⟩ : ∃ hi', max lo' (x.hi - lo % 2) = hi' := ⟨_, rfl⟩
      obtain ⟨y, hy⟩ : ∃ y : Lk, y = ⟨x.fr, x.to, lo', x.hi⟩ := ⟨_, rfl⟩
      have hyk : (⟨x.fr, x.to, lo', hi'⟩ : Lk) = narK lo hi x := by rw [← hhi', ← hlo']; rfl
      have g2 : ((C.map lkE).flatten ++ rC)[i * 4 + 2]? = some (.int .i64 x.lo) := flat_get hx rfl
      have g3 : ((C.map lkE).flatten ++ rC)[i * 4 + 3]? = some (.int .i64 x.hi) := flat_get hx rfl
      have hgy : (C.set i y)[i]? = some y := by rw [List.getElem?_set_self hil]
      have k2 : (((C.set i y).map lkE).flatten ++ rC)[i * 4 + 2]? = some (.int .i64 lo') := flat_get hgy (by rw [hy]; rfl)
      have k3 : (((C.set i y).map lkE).flatten ++ rC)[i * 4 + 3]? = some (.int .i64 x.hi) := flat_get hgy (by rw [hy]; rfl)
      refine c_perm ((List.perm_append_comm (l₁ := [_, _]) (l₂ := [_]))) ?_
      simp only [List.cons_append, List.nil_append]
      refine c_seq ?_
      refine c_new 1 0 [(16, .sto 0 (i * 4 + 2) 1)] [(16, [0])] [(4, 0), (8, 0)] rfl (by decide +kernel) rfl ?_
      repeat (first | refine e_val rfl rfl rfl rfl (v_load_at rfl (by repeat (first | exact List.Mem.head _ | apply List.Mem.tail)) rfl rfl g2) ?_ | refine e_val rfl rfl rfl rfl (v_load_at rfl (by repeat (first | exact List.Mem.head _ | apply List.Mem.tail)) rfl rfl g3) ?_ | refine e_val rfl rfl rfl rfl (v_rem (n := 2) rfl rfl (by omega) (by omega)) ?_ | refine e_val rfl rfl rfl rfl (by first | exact v_add rfl rfl (by omega) (by omega) | exact v_iconv rfl rfl rfl (by omega) (by omega) | exact pureEval_ok rfl  | fail) ?_  | fail)
      rw [hlo']
      refine e_store rfl rfl rfl rfl rfl rfl rfl rfl rfl rfl rfl (by rw [List.length_append, lk_flat_len]; omega) (splice_one (by rw [List.length_append, lk_flat_len]; omega) (flat_set (y := y) (by decide) hx (by rw [hy]; rfl))) ?_
      refine e_nil rfl ?_
      refine x_then ?_
      refine c_new 1 0 [(16, .sto 0 (i * 4 + 3) 1)] [(16, [0])] [(4, 0), (8, 0)] rfl (by decide +kernel) rfl ?_
      repeat (first | refine e_val rfl rfl rfl rfl (v_load_at rfl (by repeat (first | exact List.Mem.head _ | apply List.Mem.tail)) rfl rfl k2) ?_ | refine e_val rfl rfl rfl rfl (v_load_at rfl (by repeat (first | exact List.Mem.head _ | apply List.Mem.tail)) rfl rfl k3) ?_ | refine e_val rfl rfl rfl rfl (v_rem (n := 2) rfl rfl (by omega) (by omega)) ?_ | refine e_val rfl rfl rfl rfl (by first | exact v_sub rfl rfl (by omega) (by omega) | exact v_iconv rfl rfl rfl (by omega) (by omega) | exact pureEval_ok rfl  | fail) ?_  | fail)
      rw [hhi']
      refine e_store rfl rfl rfl rfl rfl rfl rfl rfl rfl rfl rfl (by rw [List.length_append, lk_flat_len, List.length_set]; omega) (splice_one (by rw [List.length_append, lk_flat_len, List.length_set]; omega) (flat_set (x := y) (y := ⟨x.fr, x.to, lo', hi'⟩) (by decide) hgy (by rw [hy]; rfl))) ?_
      rw [List.set_set, hyk, ← hwd]
      refine e_nil rfl ?_
      refine x_perm (List.perm_append_comm (l₁ := [_]) (l₂ := [_, _])) ?_
      exact hsh (by repeat (first | exact EnvSub.nil | refine EnvSub.cons rfl (by first | rfl | (congr 1; done) | (exact congrArg (Value.int _) (by omega)) | (simp; done)) ?_)) (by repeat (first | exact MSub.nil | refine MSub.keep (by first | rfl | assumption) ?_ | refine MSub.drop ?_ | exact MSub.refl _))
  obtain ⟨L', hL'⟩ : ∃ L', widL which lo hi L = L' := ⟨_, rfl⟩
  obtain ⟨C', hC'⟩ : ∃ C', narL which lo hi C = C' := ⟨_, rfl⟩
  rw [hL'] at hwl
  rw [hC'] at hnl
  rw [hL', hC', ← hwl, ← hnl]
  have hWid : All2 Wid L L' := by rw [← hL']; exact wid_all hFine (by omega) (by omega)
  have hNar : All2 Nar C C' := by rw [← hC']; exact nar_all hCal t5 (by omega) (by omega)
  have hUn : ∀ {mem : List (Nat × Obj)} {W : World}, SatW w (base w) noJ mem W → (bL, Obj.cells ⟨(L'.map lkE).flatten ++ rL⟩ 43 (0, 0)) ∈ mem → (bC, Obj.cells ⟨(C'.map lkE).flatten ++ rC⟩ 43 (0, 0)) ∈ mem → (R23.Un.mk N (some ⟨bL, 0, none⟩) cL L' (some ⟨bC, 0, none⟩) cC C').In W := fun {mem W} hW m1 m2 => ⟨hW.rows (b := bL) m1 rfl (lk_len _), hW.rows (b := bC) m2 rfl (lk_len _)⟩
  have eT : (t : Int) + (m3 : Int) = ((t + m3 : Nat) : Int) := by push_cast; rfl
  rw [eT]
  repeat (first | refine l_val rfl rfl (by first | exact pureEval_ok rfl | exact v_load rfl (by repeat (first | exact List.Mem.head _ | apply List.Mem.tail)) rfl (by rfl)  | fail) ?_ | refine c_region ?_ | refine c_seq ?_ | refine x_then ?_  | fail)
  refine r_call rfl rfl rfl (fun W hW => FewS_calls (R23.Un.mk N (some ⟨bL, 0, none⟩) cL L' (some ⟨bC, 0, none⟩) cC C') ((t + m3 : Nat) : Int) W (hUn hW (by repeat (first | exact List.Mem.head _ | apply List.Mem.tail)) (by repeat (first | exact List.Mem.head _ | apply List.Mem.tail)))) ?_
  simp only
  cases hf2 : fwB N L' C' ((t + m3 : Nat) : Int) with
  | false =>
    repeat (first | refine l_val rfl rfl (by first | exact pureEval_ok rfl | exact v_load rfl (by repeat (first | exact List.Mem.head _ | apply List.Mem.tail)) rfl (by rfl)  | fail) ?_ | refine l_nil ?_ | refine c_region ?_ | refine c_seq ?_ | refine x_then ?_ | refine l_skip rfl rfl ?_ | refine c_true rfl ?_ | refine c_ret ?_ | refine x_then_ret ?_  | fail)
    exact x_ret rfl rfl (by repeat (first | exact Res.nil | (apply Res.tmp; rfl) | (apply Res.cell; rfl; exact (by repeat (first | exact List.Mem.head _ | apply List.Mem.tail)); rfl; rfl))) rfl (fun W hW => ⟨rfl, hW.below⟩)
  | true =>
  obtain ⟨hl2, hc2, hfx⟩ := fwB_ok hf2
  repeat (first | refine l_val rfl rfl (by first | exact pureEval_ok rfl | exact v_load rfl (by repeat (first | exact List.Mem.head _ | apply List.Mem.tail)) rfl (by rfl)  | fail) ?_  | fail)
  refine r_call rfl rfl rfl (fun W hW => CheckS_calls (R23.Un.mk N (some ⟨bL, 0, none⟩) cL L' (some ⟨bC, 0, none⟩) cC C') ((t + m3 : Nat) : Int) W (hUn hW (by repeat (first | exact List.Mem.head _ | apply List.Mem.tail)) (by repeat (first | exact List.Mem.head _ | apply List.Mem.tail))) (show L'.length ≤ 1000 by omega) (show C'.length ≤ 1000 by omega)) ?_
  simp only
  by_cases h02 : chkS N L' C' ((t + m3 : Nat) : Int) = 0
  rotate_left
  · repeat (first | refine l_val rfl rfl (by first | exact pureEval_ok rfl  | fail) ?_ | refine l_nil ?_ | refine c_region ?_ | refine c_seq ?_ | refine x_then ?_ | refine c_dec_t rfl (by first | omega  | fail) ?_ | refine c_ret ?_ | refine x_then_ret ?_  | fail)
    exact x_ret rfl rfl (by repeat (first | exact Res.nil | (apply Res.tmp; rfl) | (apply Res.cell; rfl; exact (by repeat (first | exact List.Mem.head _ | apply List.Mem.tail)); rfl; rfl))) rfl (fun W hW => ⟨rfl, hW.below⟩)
  rw [h02]
  have hfx2 := hfx h02
  rw [Int.toNat_natCast, Int.toNat_natCast] at hfx2
  have hv2 : Vt ⟨N, t + m3, L', C'⟩ 0 (List.replicate N 0) := by
    refine Vt_more (fun q y hy => ?_) hWid hNar hv
    obtain ⟨x, hx, w1, _⟩ := nar_lnk hNar hy
    obtain ⟨i, _, hix⟩ := lnk_some hx
    obtain ⟨c1, c2, _⟩ := hCal x (List.mem_of_getElem? hix)
    omega
  repeat (first | refine l_val rfl rfl (by first | exact pureEval_ok rfl | exact v_load rfl (by repeat (first | exact List.Mem.head _ | apply List.Mem.tail)) rfl (by rfl)  | fail) ?_ | refine l_nil ?_ | refine c_region ?_ | refine c_seq ?_ | refine x_then ?_ | refine c_false rfl ?_ | refine c_skip ?_  | fail)
  refine r_callL (ι := { i : SolI // i.OK ⟨N, t + m3, L', C'⟩ (adD ⟨N, t + m3, L', C'⟩) (nxD ⟨N, t + m3, L', C'⟩) }) (v := fun i => yesS i.1) (ms := fun i => i.1.m) rfl rfl rfl (fun W hW => (Solve_calls N (t + m3) (some ⟨bL, 0, none⟩) (some ⟨bC, 0, none⟩) cL cC L' C' W (hUn hW (by repeat (first | exact List.Mem.head _ | apply List.Mem.tail)) (by repeat (first | exact List.Mem.head _ | apply List.Mem.tail))) (by omega) (by omega) h02 hfx2).mono fun e w' h => sol_yes hv2 h) ?_
  rintro ⟨i2, hi2⟩
  simp only
  repeat (first | refine l_val rfl rfl (by first | exact pureEval_ok rfl  | fail) ?_ | refine l_nil ?_ | refine c_region ?_ | refine c_seq ?_ | refine x_then ?_ | refine c_ret ?_  | fail)
  exact x_ret rfl rfl (by repeat (first | exact Res.nil | (apply Res.tmp; rfl) | (apply Res.cell; rfl; exact (by repeat (first | exact List.Mem.head _ | apply List.Mem.tail)); rfl; rfl))) rfl (fun W hW => ⟨rfl, hW.below⟩)
end R24
end Go.Proofs

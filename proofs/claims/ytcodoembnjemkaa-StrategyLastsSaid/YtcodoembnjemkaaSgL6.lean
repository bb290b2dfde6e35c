/- Games on networks: the law Lasts, walked. -/
import Derived.Test.YtcodoembnjemkaaSgStg
import Derived.Test.YtcodoembnjemkaaSgLst
import Derived.Test.YtcodoembnjemkaaSgFr
set_option linter.unusedSectionVars false
set_option linter.unusedVariables false
set_option linter.unusedSimpArgs false
namespace Go.Proofs
open Go.RowKit Go.Kin Go.Kin.St Go.Kin.Ct Go.Kin.Sg
namespace R24
theorem inE_rows (l : List Int) : (l.map inE).flatten.length = l.length * 1 := by
  induction l with
  | nil => rfl
  | cons x l ih => rw [List.map_cons, List.flatten_cons, List.length_append, ih, List.length_cons]; show 1 + _ = _; omega
/-- a list that has grown lies there -/
theorem gSlI_at {l : List Int} {b cap : Nat} {r : List Value} {w0 W : World} {D : Nat → Prop} {J : (Nat → Prop) → World → Prop} {mem : List (Nat × Obj)} (hW : SatW w0 D J mem W) (h : ∀ p ∈ gM inE 3 l b r, p ∈ mem) : ∃ A c, gSl l b cap = .slice A l.length c ∧ At W A 1 (l.map inE) := by
  cases l with
  | nil => exact ⟨none, 0, rfl, fun i r h => by simp at h⟩
  | cons x l =>
    refine ⟨_, cap, rfl, fun i cs hi => ⟨b, 0, rfl, fun j v hj => ?_⟩⟩
    rw [List.getElem?_map] at hi
    obtain ⟨y, hy, rfl⟩ := Option.map_eq_some_iff.1 hi
    cases j with
    | succ j => cases hj
    | zero =>
      cases hj
      rw [hW.cellAt (h _ List.mem_cons_self), show 0 + i * 1 + 0 = i by omega]
      exact flI_get hy r
/-- a strategy of one's own, or none -/
structure Own where
  A : Option Addr
  c : Nat
  rows : List DW
  m : List (Nat × Obj)
structure Own.OK (o : Own) : Prop where
  s : ∀ W : World, (∀ p ∈ o.m, W.heap[p.1]? = some p.2) → StrIn W o.A o.rows
  l : o.rows.length ≤ 10000000
  d : ∀ r ∈ o.rows, r.l.length ≤ 1000 ∧ r.d.length ≤ 1000
theorem own_no : (Own.mk none 0 [] []).OK := ⟨fun W _ => str_nil W, by simp, fun r hr => by cases hr⟩
theorem own_yes {i : SolI} {G : Gm} {ad : Pos → List Dec} {nx : Pos → List Pos} (hi : i.OK G ad nx) (h1 : (i.rows.map drW).length ≤ 10000000) (h2 : ∀ r ∈ i.rows.map drW, r.l.length ≤ 1000 ∧ r.d.length ≤ 1000) : ∃ o : Own, o.OK ∧ i.v = .slice o.A o.rows.length o.c ∧ o.m = i.m := by
  obtain ⟨A, c, hA⟩ := gSl_len (l := i.rows) (b := i.b) (cap := i.c)
  have hv : i.v = .slice A i.rows.length c := hA
  refine ⟨⟨A, c, i.rows.map drW, i.m⟩, ⟨fun W hm => ?_, h1, h2⟩, by rw [hv]; simp only [List.length_map], rfl⟩
  obtain ⟨A', c', hA', hS⟩ := strIn_own hi hm
  rw [hv] at hA'
  obtain ⟨e, _, _⟩ := Value.slice.inj hA'
  rw [e]
  exact hS
set_option maxRecDepth 100000 in
set_option maxHeartbeats 400000000 in
theorem law6 (u : R23.Un) (T : Int) (S1 A3 : Option Addr) (c1 c3 : Nat) (ra : List DW) (sh : List Int) (w : World) (hA : u.In w) (h1 : StrIn w S1 ra) (h3 : At w A3 1 (sh.map byE)) (hsb : ∀ x ∈ sh, 0 ≤ x ∧ x ≤ 255) (hsl : sh.length ≤ 9223372036854775807) :
    Calls Try.prog 6 ⟨[.agg ⟨u.v⟩, .int .i64 T, .slice S1 ra.length c1, .slice A3 sh.length c3]⟩ w fun e w' => e = .returned (.bool true) ∧ Below w.heap.size w w' := by
  have hfew : ∀ (mem : List (Nat × Obj)) (W : World), SatW w (base w) noJ mem W → Calls Try.prog 9 ⟨[.agg ⟨u.v⟩, .int .i64 T]⟩ W fun e w' => e = .returned (.bool (fwB u.n u.L u.C T)) ∧ Below W.heap.size W w' := fun mem W hW => FewS_calls u T W (hA.sat hW)
  have hck : u.L.length ≤ 1000 → u.C.length ≤ 1000 → ∀ (mem : List (Nat × Obj)) (W : World), SatW w (base w) noJ mem W → Calls Try.prog 13 ⟨[.agg ⟨u.v⟩, .int .i64 T]⟩ W fun e w' => e = .returned (.int .i64 (chkS u.n u.L u.C T)) ∧ Below W.heap.size W w' := fun hl hc mem W hW => CheckS_calls u T W (hA.sat hW) hl hc
  have hwi : u.L.length ≤ 1000 → u.C.length ≤ 1000 → ∀ {S : Option Addr} {cs : Nat} {rows : List DW} (mem : List (Nat × Obj)) (W : World), SatW w (base w) noJ mem W → StrIn W S rows → rows.length ≤ 10000000 → (∀ r ∈ rows, r.l.length ≤ 1000 ∧ r.d.length ≤ 1000) → Calls Try.prog 18 ⟨[.agg ⟨u.v⟩, .int .i64 T, .slice S rows.length cs]⟩ W fun e w' => e = .returned (winsV u.n u.L u.C T rows) ∧ Below W.heap.size W w' := fun hl hc S cs rows mem W hW hS hr hd => Wins_calls u T S cs rows W (hA.sat hW) hl hc hS hr hd
  have hpl : u.L.length ≤ 1000 → u.C.length ≤ 1000 → ∀ {S : Option Addr} {cs : Nat} {rows : List DW} {D : Option Addr} {cd : Nat} {wt : List Int} (mem : List (Nat × Obj)) (W : World), SatW w (base w) noJ mem W → StrIn W S rows → rows.length ≤ 10000000 → (∀ r ∈ rows, r.l.length ≤ 1000 ∧ r.d.length ≤ 1000) → At W D 1 (wt.map inE) → Calls Try.prog 11 ⟨[.agg ⟨u.v⟩, .int .i64 T, .slice S rows.length cs, .slice D wt.length cd]⟩ W (PlQ u.n u.L u.C T rows wt W) := fun hl hc S cs rows D cd wt mem W hW hS hr hd hD => Play_calls u T S cs rows D cd wt W (hA.sat hW) hl hc hS hr hd hD
  have hcp : u.L.length ≤ 1000 → ∀ {X D : Option Addr} {cx cd : Nat} {tl wt : List Int} (mem : List (Nat × Obj)) (W : World), SatW w (base w) noJ mem W → At W X 1 (tl.map inE) → At W D 1 (wt.map inE) → tl.length ≤ 9223372036854775807 → wt.length ≤ 9223372036854775807 → Calls Try.prog 21 ⟨[.agg ⟨u.v⟩, .slice X tl.length cx, .slice D wt.length cd]⟩ W (R23.PlayQ u.n u.L u.C tl wt W) := fun hl X D cx cd tl wt mem W hW hX hD l1 l2 => R23.Play_calls u X D cx cd tl wt W (hA.sat hW) hl hX hD l1 l2
  have hAA : ∀ (mem : List (Nat × Obj)) (W : World), SatW w (base w) noJ mem W → u.In W := fun mem W hW => hA.sat hW
  have hAl := hA.l
  have hAc := hA.c
  obtain ⟨n, A, ca, L, B, cb, C⟩ := u
  simp only [R23.Un.v] at hfew hwi hck hpl hcp ⊢
  simp only at hAl hAc
  refine fun_enter Try.func6 rfl Try.ntmps6 rfl rfl (satW_nil w) ?_
  repeat (first | refine l_val rfl rfl (by first | exact pureEval_ok rfl  | fail) ?_ | refine l_nil ?_ | refine c_region ?_ | refine c_seq ?_ | refine x_then ?_ | refine r_box rfl rfl rfl rfl (fun _ => ?_)  | fail)
  rename_i b4
  refine r_call rfl rfl rfl (fun W hW => sane_calls W) ?_
  repeat (first | refine l_val rfl rfl (by first | exact pureEval_ok rfl | exact v_load rfl (by repeat (first | exact List.Mem.head _ | apply List.Mem.tail)) rfl (by rfl)  | fail) ?_ | refine l_nil ?_ | refine c_region ?_ | refine c_seq ?_ | refine x_then ?_ | refine c_false rfl ?_ | refine c_skip ?_  | fail)
  refine r_call rfl rfl rfl (fun W hW => hfew _ W hW) ?_
  cases hf : fwB n L C T with
  | false =>
    repeat (first | refine l_val rfl rfl (by first | exact pureEval_ok rfl | exact v_load rfl (by repeat (first | exact List.Mem.head _ | apply List.Mem.tail)) rfl (by rfl)  | fail) ?_ | refine l_nil ?_ | refine c_region ?_ | refine c_seq ?_ | refine x_then ?_ | refine l_skip rfl rfl ?_ | refine c_true rfl ?_ | refine c_ret ?_ | refine x_then_ret ?_  | fail)
    exact x_ret rfl rfl (by repeat (first | exact Res.nil | (apply Res.tmp; rfl) | (apply Res.cell; rfl; exact (by repeat (first | exact List.Mem.head _ | apply List.Mem.tail)); rfl; rfl))) rfl (fun W hW => ⟨rfl, hW.below⟩)
  | true =>
  obtain ⟨hl, hc, hfw⟩ := fwB_ok hf
  have hck := hck (by omega) (by omega)
  have hwi := fun {S cs rows} => hwi (by omega) (by omega) (S := S) (cs := cs) (rows := rows)
  have hpl := fun {S cs rows D cd wt} => hpl (by omega) (by omega) (S := S) (cs := cs) (rows := rows) (D := D) (cd := cd) (wt := wt)
  have hcp := fun {X D cx cd tl wt} => hcp (by omega) (X := X) (D := D) (cx := cx) (cd := cd) (tl := tl) (wt := wt)
  repeat (first | refine l_val rfl rfl (by first | exact pureEval_ok rfl  | fail) ?_  | fail)
  refine r_call rfl rfl rfl (fun W hW => FewD_calls S1 c1 ra W (h1.later hW.below).r) ?_
  cases hfa : fdB ra with
  | false =>
    repeat (first | refine l_val rfl rfl (by first | exact pureEval_ok rfl | exact v_load rfl (by repeat (first | exact List.Mem.head _ | apply List.Mem.tail)) rfl (by rfl)  | fail) ?_ | refine l_nil ?_ | refine c_region ?_ | refine c_seq ?_ | refine x_then ?_ | refine l_skip rfl rfl ?_ | refine c_true rfl ?_ | refine c_ret ?_ | refine x_then_ret ?_  | fail)
    exact x_ret rfl rfl (by repeat (first | exact Res.nil | (apply Res.tmp; rfl) | (apply Res.cell; rfl; exact (by repeat (first | exact List.Mem.head _ | apply List.Mem.tail)); rfl; rfl))) rfl (fun W hW => ⟨rfl, hW.below⟩)
  | true =>
  obtain ⟨ha1, ha2⟩ := fdB_ok hfa
  repeat (first | refine l_val rfl rfl (by first | exact pureEval_ok rfl | exact v_load rfl (by repeat (first | exact List.Mem.head _ | apply List.Mem.tail)) rfl (by rfl)  | fail) ?_  | fail)
  refine r_call rfl rfl rfl (fun W hW => hck _ W hW) ?_
  by_cases h0 : chkS n L C T = 0
  rotate_left
  · repeat (first | refine l_val rfl rfl (by first | exact pureEval_ok rfl  | fail) ?_ | refine l_nil ?_ | refine c_region ?_ | refine c_seq ?_ | refine x_then ?_ | refine c_dec_t rfl (by first | omega  | fail) ?_ | refine c_ret ?_ | refine x_then_ret ?_  | fail)
    exact x_ret rfl rfl (by repeat (first | exact Res.nil | (apply Res.tmp; rfl) | (apply Res.cell; rfl; exact (by repeat (first | exact List.Mem.head _ | apply List.Mem.tail)); rfl; rfl))) rfl (fun W hW => ⟨rfl, hW.below⟩)
  rw [h0]
  obtain ⟨k0, t1, t2, t3, t4, t5⟩ := chkS_ok h0
  obtain ⟨n1, n2⟩ := R23.chkU_ok k0
  obtain ⟨t, rfl⟩ : ∃ t : Nat, T = t := ⟨T.toNat, by omega⟩
  obtain ⟨N, rfl⟩ : ∃ N : Nat, n = N := ⟨n.toNat, by omega⟩
  have hfw2 := hfw h0
  rw [Int.toNat_natCast, Int.toNat_natCast] at hfw2
  obtain ⟨n2a, n2b, n2c, hFine, hTree⟩ := n2
  rw [Int.toNat_natCast] at hTree
  have hCal := hTree.cal
  repeat ((fail_if_success refine c_probe (id := 5) ?_); (fail_if_success refine c_probe1 (id := 5) ?_); first | refine l_val rfl rfl (by first | exact pureEval_ok rfl  | fail) ?_ | refine l_nil ?_ | refine x_then ?_ | refine c_false rfl ?_ | refine c_skip ?_  | fail)
  refine c_joinI (ι := Own) (fun o => o.OK) (fun o => [(1, .int .i64 t), (2, .slice S1 ra.length c1), (3, .slice A3 sh.length c3), (4, .pointer (some ⟨b4, 0, none⟩)), (9, .slice o.A o.rows.length o.c), (11, .int .i64 0)]) (fun o => (b4, .cells ⟨[.int .i64 N, .slice A L.length ca, .slice B C.length cb]⟩ 24 (0, 0)) :: o.m) ?_ (fun o ho => ?_)
  · by_cases hv : Vt ⟨N, t, L, C⟩ 0 (List.replicate N 0)
    · repeat (first | refine l_val rfl rfl (by first | exact pureEval_ok rfl | exact v_load rfl (by repeat (first | exact List.Mem.head _ | apply List.Mem.tail)) rfl (by rfl)  | fail) ?_ | refine c_region ?_  | fail)
      refine r_callL (ι := { i : SolI // i.OK ⟨N, t, L, C⟩ (adD ⟨N, t, L, C⟩) (nxD ⟨N, t, L, C⟩) }) (v := fun i => yesS i.1) (ms := fun i => i.1.m) rfl rfl rfl (fun W hW => (Solve_calls N t A B ca cb L C W (hAA _ W hW) (by omega) (by omega) h0 hfw2).mono fun e w' h => sol_yes hv h) ?_
      rintro ⟨i1, hi1⟩
      simp only
      obtain ⟨q1, q2⟩ := sol_read h0 hfw2 hv hi1
      obtain ⟨ql, qr⟩ := rdC_small q1
      obtain ⟨o, ho, hov, hom⟩ := own_yes hi1 ql qr
      unfold yesS
      rw [hov, ← hom]
      refine l_perm List.perm_append_comm ?_
      simp only [List.cons_append, List.nil_append]
      repeat (first | exact x_midI o ho (by repeat (first | exact EnvSub.nil | refine EnvSub.cons rfl (by first | rfl | (congr 1; done) | (exact congrArg (Value.int _) (by omega)) | (simp; done)) ?_)) (by repeat (first | exact MSub.nil | refine MSub.keep (by first | rfl | assumption) ?_ | refine MSub.drop ?_ | exact MSub.refl _)) | refine l_val rfl rfl (by first | exact pureEval_ok rfl  | fail) ?_ | refine l_nil ?_  | fail)
    · repeat (first | refine l_val rfl rfl (by first | exact pureEval_ok rfl | exact v_load rfl (by repeat (first | exact List.Mem.head _ | apply List.Mem.tail)) rfl (by rfl)  | fail) ?_ | refine c_region ?_  | fail)
      refine r_call (v := noS 0) rfl rfl rfl (fun W hW => (Solve_calls N t A B ca cb L C W (hAA _ W hW) (by omega) (by omega) h0 hfw2).mono fun e w' h => sol_no hv h) ?_
      repeat (first | exact x_midI ⟨none, 0, [], []⟩ own_no (by repeat (first | exact EnvSub.nil | refine EnvSub.cons rfl (by first | rfl | (congr 1; done) | (exact congrArg (Value.int _) (by omega)) | (simp; done)) ?_)) (by repeat (first | exact MSub.nil | refine MSub.keep (by first | rfl | assumption) ?_ | refine MSub.drop ?_ | exact MSub.refl _)) | refine l_val rfl rfl (by first | exact pureEval_ok rfl  | fail) ?_ | refine l_nil ?_  | fail)
  repeat ((fail_if_success refine c_probe (id := 10) ?_); (fail_if_success refine c_probe1 (id := 10) ?_); first | refine l_val rfl rfl (by first | exact pureEval_ok rfl | exact v_load rfl (by repeat (first | exact List.Mem.head _ | apply List.Mem.tail)) rfl (by rfl)  | fail) ?_ | refine l_nil ?_ | refine c_region ?_ | refine c_seq ?_ | refine x_then ?_ | refine c_false rfl ?_ | refine c_block ?_ | refine c_skip ?_  | fail)
  refine c_loop (ι := LS) (fun s => s.i ≤ C.length ∧ gOK inE 1 (durT C sh s.i) s.c s.r) (fun s => [(1, .int .i64 t), (2, .slice S1 ra.length c1), (3, .slice A3 sh.length c3), (4, .pointer (some ⟨b4, 0, none⟩)), (9, .slice o.A o.rows.length o.c), (12, gSl (durT C sh s.i) s.b s.c), (56, .slice B C.length cb), (57, .int .i64 C.length), (58, .int .i64 s.i)])
    (fun s => (b4, .cells ⟨[.int .i64 N, .slice A L.length ca, .slice B C.length cb]⟩ 24 (0, 0)) :: (gM inE 3 (durT C sh s.i) s.b s.r ++ o.m)) (fun s => C.length - s.i) ⟨0, 0, 0, []⟩ ⟨Nat.zero_le _, fun h => absurd rfl h⟩ (by repeat (first | exact EnvSub.nil | refine EnvSub.cons rfl (by first | rfl | (congr 1; done) | (exact congrArg (Value.int _) (by omega)) | (simp; done)) ?_)) (by repeat (first | exact MSub.nil | refine MSub.keep (by first | rfl | assumption) ?_ | refine MSub.drop ?_ | exact MSub.refl _)) ?_
  rintro ⟨i, bb, cc, rr⟩ ⟨hi, hgr⟩
  simp only at hi hgr ⊢
  obtain ⟨D, cd, hD⟩ := gSl_len (l := durT C sh i) (b := bb) (cap := cc)
  rw [hD]
  by_cases hlt : i < C.length
  · obtain ⟨x, hx⟩ : ∃ x, C[i]? = some x := ⟨_, List.getElem?_eq_getElem hlt⟩
    obtain ⟨_, _, _, _, _, x1, x2, x3⟩ := hCal x (List.mem_of_getElem? hx)
    obtain ⟨bB, oB, rfl, hcB⟩ := hAc i (lkE x) (by rw [List.getElem?_map, hx]; rfl)
    have eB := ext_of hcB
    have hsu := durT_succ (sh := sh) hx
    have hdl := durT_len (C := C) (sh := sh) (k := i)
    have hgr' := fun (_ : Unit) => hgr
    clear hgr
    by_cases his : i < sh.length
    · obtain ⟨s, hs⟩ : ∃ s, sh[i]? = some s := ⟨_, List.getElem?_eq_getElem his⟩
      have hsv : shr sh i x = x.lo + s % (x.hi - x.lo + 1) := by unfold shr; rw [hs]
      have hsb2 := hsb s (List.mem_of_getElem? hs)
      have hm1 := Int.emod_nonneg s (show x.hi - x.lo + 1 ≠ 0 by omega)
      have hm2 := Int.emod_lt_of_pos s (show 0 < x.hi - x.lo + 1 by omega)
      obtain ⟨bS, oS, rfl, hcS⟩ := h3 i (byE s) (by rw [List.getElem?_map, hs]; rfl)
      have eS := ext_of hcS
      rw [Nat.mul_one] at eS
      rw [hsv] at hsu
      repeat (first | refine l_val rfl rfl (by first | exact pureEval_ok rfl | exact v_load rfl (by repeat (first | exact List.Mem.head _ | apply List.Mem.tail)) rfl (by rfl) | exact v_load_ext0 rfl (by assumption) rfl (by rfl) | exact v_index rfl rfl rfl rfl (by omega) (by omega) (by with_reducible first | exact idx4 _ _ _   | fail)  | fail) ?_ | refine l_nil ?_ | refine c_region ?_ | refine c_seq ?_ | refine x_then ?_ | refine r_alloc rfl rfl rfl (by first | exact aggL  | fail) (fun _ => ?_) | refine r_store rfl rfl rfl rfl rfl rfl rfl (by repeat (first | exact Upd.head | apply Upd.tail)) (by rfl) ?_ | refine r_buildSlice rfl rfl rfl rfl rfl rfl (by rfl) (fun _ => ?_) | refine c_dec_t rfl (by first | omega  | fail) ?_ | refine c_block ?_ | refine c_skip ?_ | refine c_reads rfl (by decide +kernel) ?_ | refine q_val rfl rfl (by first | exact v_add rfl rfl (by omega) (by omega) | exact v_sub rfl rfl (by omega) (by omega) | exact v_iconv rfl rfl rfl (by omega) (by omega) | exact pureEval_ok rfl | exact v_load rfl (by repeat (first | exact List.Mem.head _ | apply List.Mem.tail)) rfl (by rfl) | exact v_load_ext0 rfl (by assumption) rfl (by rfl) | exact v_index rfl rfl rfl rfl (by omega) (by omega) (by with_reducible first | exact idx2 _ _   | fail) | exact v_rem rfl rfl (by omega) (by omega)  | fail) ?_ | refine q_nil ?_  | fail)
      refine r_appendZ (f := inE) (e := 3) (sz := 1) (xs := durT C sh i) (ys := [x.lo + s % (x.hi - x.lo + 1)]) (m := 1) rfl rfl (congrArg some hD.symm) rfl rfl rfl rfl (.inr ⟨_, 0, rfl, news_own (by repeat (first | exact List.Mem.head _ | apply List.Mem.tail))⟩) (List.perm_append_comm_assoc [_, _, _] _ _) (hgr' ()) inE_rows rfl rfl (by omega) (by unfold maxLen; omega) (fun b' c' r' hg' => ?_)
      rw [← hsu] at hg' ⊢
      refine l_perm (List.perm_append_comm_assoc _ [_, _, _] _) ?_
      obtain ⟨A2', k2', hA2'⟩ := gSl_len (l := durT C sh (i + 1)) (b := b') (cap := c')
      rw [hA2']
      simp only [List.cons_append, List.nil_append]
      repeat (first | refine l_val rfl rfl (by first | exact v_add rfl rfl (by omega) (by omega) | exact pureEval_ok rfl  | fail) ?_ | refine l_nil ?_ | refine c_region ?_ | refine x_then ?_ | refine x_block ?_  | fail)
      rw [← hA2']
      exact x_back ⟨i + 1, b', c', r'⟩ ⟨hlt, hg'⟩ (by simp only; omega) (by repeat (first | exact EnvSub.nil | refine EnvSub.cons rfl (by first | rfl | (congr 1; done) | (exact congrArg (Value.int _) (by omega)) | (simp; done)) ?_)) (by repeat (first | exact MSub.nil | refine MSub.keep (by first | rfl | assumption) ?_ | refine MSub.drop ?_ | exact MSub.refl _))
    · have hsv : shr sh i x = x.lo := by unfold shr; rw [List.getElem?_eq_none (by omega)]; simp only; omega
      rw [hsv] at hsu
      repeat (first | refine l_val rfl rfl (by first | exact pureEval_ok rfl | exact v_load rfl (by repeat (first | exact List.Mem.head _ | apply List.Mem.tail)) rfl (by rfl) | exact v_load_ext0 rfl (by assumption) rfl (by rfl) | exact v_index rfl rfl rfl rfl (by omega) (by omega) (by with_reducible first | exact idx4 _ _ _   | fail)  | fail) ?_ | refine l_nil ?_ | refine c_region ?_ | refine c_seq ?_ | refine x_then ?_ | refine r_alloc rfl rfl rfl (by first | exact aggL  | fail) (fun _ => ?_) | refine r_store rfl rfl rfl rfl rfl rfl rfl (by repeat (first | exact Upd.head | apply Upd.tail)) (by rfl) ?_ | refine r_buildSlice rfl rfl rfl rfl rfl rfl (by rfl) (fun _ => ?_) | refine c_dec_t rfl (by first | omega  | fail) ?_ | refine c_dec_f rfl (by first | omega  | fail) ?_ | refine c_block ?_ | refine c_skip ?_  | fail)
      refine r_appendZ (f := inE) (e := 3) (sz := 1) (xs := durT C sh i) (ys := [x.lo]) (m := 1) rfl rfl (congrArg some hD.symm) rfl rfl rfl rfl (.inr ⟨_, 0, rfl, news_own (by repeat (first | exact List.Mem.head _ | apply List.Mem.tail))⟩) (List.perm_append_comm_assoc [_, _, _] _ _) (hgr' ()) inE_rows rfl rfl (by omega) (by unfold maxLen; omega) (fun b' c' r' hg' => ?_)
      rw [← hsu] at hg' ⊢
      refine l_perm (List.perm_append_comm_assoc _ [_, _, _] _) ?_
      obtain ⟨A2', k2', hA2'⟩ := gSl_len (l := durT C sh (i + 1)) (b := b') (cap := c')
      rw [hA2']
      simp only [List.cons_append, List.nil_append]
      repeat (first | refine l_val rfl rfl (by first | exact v_add rfl rfl (by omega) (by omega) | exact pureEval_ok rfl  | fail) ?_ | refine l_nil ?_ | refine c_region ?_ | refine x_then ?_ | refine x_block ?_  | fail)
      rw [← hA2']
      exact x_back ⟨i + 1, b', c', r'⟩ ⟨hlt, hg'⟩ (by simp only; omega) (by repeat (first | exact EnvSub.nil | refine EnvSub.cons rfl (by first | rfl | (congr 1; done) | (exact congrArg (Value.int _) (by omega)) | (simp; done)) ?_)) (by repeat (first | exact MSub.nil | refine MSub.keep (by first | rfl | assumption) ?_ | refine MSub.drop ?_ | exact MSub.refl _))
  have hiC : i = C.length := by omega
  subst hiC
  have hdl := durT_len (C := C) (sh := sh) (k := C.length)
  have hwb : ∀ j y, C[j]? = some y → y.lo ≤ (durT C sh C.length).getD j 0 ∧ (durT C sh C.length).getD j 0 ≤ y.hi := fun j y hy => by
    rw [durT_get (List.getElem?_eq_some_iff.1 hy).1 hy]
    exact shr_bd (hCal y (List.mem_of_getElem? hy)).2.2.2.2.2.2.1
  obtain ⟨wt, hwt⟩ : ∃ wt, durT C sh C.length = wt := ⟨_, rfl⟩
  rw [hwt] at hgr hD hdl hwb ⊢
  have hDat : ∀ {mem : List (Nat × Obj)} {W : World}, SatW w (base w) noJ mem W → (∀ p ∈ gM inE 3 wt bb rr, p ∈ mem) → At W D 1 (wt.map inE) := fun {mem W} hW hm => by
    obtain ⟨A', c', hA', hat⟩ := gSlI_at (cap := cc) hW hm
    rw [hD] at hA'
    obtain ⟨e, _, _⟩ := Value.slice.inj hA'
    rw [e]; exact hat
  clear hgr
  repeat ((fail_if_success refine c_probe (id := 18) ?_); (fail_if_success refine c_probe1 (id := 18) ?_); first | refine l_val rfl rfl (by first | exact pureEval_ok rfl  | fail) ?_ | refine l_nil ?_ | refine c_region ?_ | refine c_seq ?_ | refine x_then ?_ | refine r_buildSlice rfl rfl rfl rfl rfl rfl (by rfl) (fun _ => ?_) | refine c_dec_f rfl (by first | omega  | fail) ?_ | refine c_block ?_ | refine c_exit ?_ | refine x_then_exit ?_ | refine x_block_same ?_  | fail)
  rename_i bR
  refine c_loop (ι := Nat) (fun k => k ≤ 2) (fun k => [(1, .int .i64 t), (4, .pointer (some ⟨b4, 0, none⟩)), (12, .slice D wt.length cd), (90, .slice (some ⟨bR, 0, none⟩) 2 2), (91, .int .i64 2), (92, .int .i64 k)])
    (fun _ => (bR, .cells ⟨[.slice S1 ra.length c1, .slice o.A o.rows.length o.c]⟩ 25 (0, 0)) :: (b4, .cells ⟨[.int .i64 N, .slice A L.length ca, .slice B C.length cb]⟩ 24 (0, 0)) :: (gM inE 3 wt bb rr ++ o.m)) (fun k => 2 - k) 0 (Nat.zero_le _) (by repeat (first | exact EnvSub.nil | refine EnvSub.cons rfl (by first | rfl | (congr 1; done) | (exact congrArg (Value.int _) (by omega)) | (simp; done)) ?_)) (by repeat (first | exact MSub.nil | refine MSub.keep (by first | rfl | assumption) ?_ | refine MSub.drop ?_ | exact MSub.refl _)) ?_
  intro k hk
  by_cases hlt : k < 2
  · have hrow : ∃ (X : Option Addr) (cx : Nat) (rw_ : List DW), ([Value.slice S1 ra.length c1, .slice o.A o.rows.length o.c])[k]? = some (.slice X rw_.length cx) ∧ (∀ {mem : List (Nat × Obj)} {W : World}, SatW w (base w) noJ mem W → (∀ p ∈ o.m, p ∈ mem) → StrIn W X rw_) ∧ rw_.length ≤ 10000000 ∧ ∀ r ∈ rw_, r.l.length ≤ 1000 ∧ r.d.length ≤ 1000 := by
      cases k with
      | zero => exact ⟨S1, c1, ra, rfl, fun hW _ => h1.later hW.below, by omega, fun r hr => by have := ha2 r hr; omega⟩
      | succ k =>
        have e : k = 0 := by omega
        subst e
        exact ⟨o.A, o.c, o.rows, rfl, fun {mem W} hW hm => ho.s W (fun p hp => (hW.own p (hm p hp)).2), ho.l, ho.d⟩
    obtain ⟨X, cx, rw_, hget, hSt, hrl, hrd⟩ := hrow
    repeat (first | refine l_val rfl rfl (by first | exact pureEval_ok rfl | exact v_load rfl (by repeat (first | exact List.Mem.head _ | apply List.Mem.tail)) rfl (by rfl) | exact v_index rfl rfl rfl rfl (by omega) (by omega) (by with_reducible first | exact idx1 _   | fail) | exact v_load_at rfl (by repeat (first | exact List.Mem.head _ | apply List.Mem.tail)) rfl rfl (by first | assumption  | fail)  | fail) ?_ | refine l_nil ?_ | refine c_region ?_ | refine c_seq ?_ | refine x_then ?_ | refine c_dec_t rfl (by first | omega  | fail) ?_ | refine c_block ?_ | refine c_skip ?_  | fail)
    by_cases hr : rdC N L C t rw_ = 0
    rotate_left
    · refine r_call (v := .tuple ⟨[.bool false, .int .i64 (rdC N L C t rw_)]⟩) rfl rfl rfl (fun W hW => ?_) ?_
      · have := hwi (cs := cx) _ W hW (hSt hW (fun p hp => List.mem_cons_of_mem _ (List.mem_cons_of_mem _ (List.mem_append_right _ hp)))) hrl hrd
        rw [winsV_no hr] at this
        exact this
      repeat (first | refine l_val rfl rfl (by first | exact v_add rfl rfl (by omega) (by omega) | exact pureEval_ok rfl  | fail) ?_ | refine l_nil ?_ | refine c_region ?_ | refine c_seq ?_ | refine x_then ?_ | refine l_skip rfl rfl ?_ | refine c_true rfl ?_ | refine c_exit ?_ | refine x_then_exit ?_ | refine x_block_same ?_ | refine l_dec_t rfl rfl rfl rfl rfl (by first | omega  | fail) ?_  | fail)
      exact x_back (k + 1) hlt (by omega) (by repeat (first | exact EnvSub.nil | refine EnvSub.cons rfl (by first | rfl | (congr 1; done) | (exact congrArg (Value.int _) (by omega)) | (simp; done)) ?_)) (by repeat (first | exact MSub.nil | refine MSub.keep (by first | rfl | assumption) ?_ | refine MSub.drop ?_ | exact MSub.refl _))
    obtain ⟨wn, hwn⟩ : ∃ wn, wnG ⟨N, t, L, C⟩ rw_ = wn := ⟨_, rfl⟩
    refine r_call (v := .tuple ⟨[.bool wn, .int .i64 0]⟩) rfl rfl rfl (fun W hW => ?_) ?_
    · have := hwi (cs := cx) _ W hW (hSt hW (fun p hp => List.mem_cons_of_mem _ (List.mem_cons_of_mem _ (List.mem_append_right _ hp)))) hrl hrd
      rw [winsV_yes hr, hwn] at this
      exact this
    cases wn with
    | false =>
      repeat (first | refine l_val rfl rfl (by first | exact v_add rfl rfl (by omega) (by omega) | exact pureEval_ok rfl  | fail) ?_ | refine l_nil ?_ | refine c_region ?_ | refine c_seq ?_ | refine x_then ?_ | refine c_true rfl ?_ | refine c_exit ?_ | refine x_then_exit ?_ | refine x_block_same ?_  | fail)
      exact x_back (k + 1) hlt (by omega) (by repeat (first | exact EnvSub.nil | refine EnvSub.cons rfl (by first | rfl | (congr 1; done) | (exact congrArg (Value.int _) (by omega)) | (simp; done)) ?_)) (by repeat (first | exact MSub.nil | refine MSub.keep (by first | rfl | assumption) ?_ | refine MSub.drop ?_ | exact MSub.refl _))
    | true =>
    have hWn : Wn ⟨N, t, L, C⟩ (tabW rw_) (t + 1) 0 (List.replicate N 0) := by
      unfold wnG at hwn
      exact @of_decide_eq_true _ (Classical.propDecidable _) hwn
    have hDur : Sg.Dur ⟨N, t, L, C⟩ wt := fun j y hy => by
      obtain ⟨g1, g2⟩ := hwb j y hy
      have hcy := hCal y (List.mem_of_getElem? hy)
      obtain ⟨c1, c2, _⟩ := hcy
      have := t5 y (List.mem_of_getElem? hy)
      exact ⟨g1, g2, this, by show y.fr.toNat < N; omega⟩
    obtain ⟨hkp, hdj⟩ := lasts_all hDur hWn
    have hp0 := plc_0 (n := N) (T := t) (L := L) hr ⟨hdl, hwb⟩
    obtain ⟨pa, hpa⟩ : ∃ pa, plA ⟨N, t, L, C⟩ wt (tabW rw_) = pa := ⟨_, rfl⟩
    rw [hpa] at hkp hdj
    have hpl1 : pa.length = N := hdj.len
    have hpb := tm_bd hkp hdj (by omega)
    repeat (first | refine l_val rfl rfl (by first | exact pureEval_ok rfl | exact v_load rfl (by repeat (first | exact List.Mem.head _ | apply List.Mem.tail)) rfl (by rfl)  | fail) ?_ | refine l_nil ?_ | refine c_region ?_ | refine c_seq ?_ | refine x_then ?_ | refine c_false rfl ?_ | refine c_skip ?_  | fail)
    refine r_call1 (ι := PlI) (v := fun i => .tuple ⟨[.slice (some ⟨i.b, 0, none⟩) N i.c, .int .i64 0]⟩) (bk := fun i => i.b) (o := fun i => .cells ⟨flI pa ++ i.r⟩ 3 (0, 0)) rfl rfl rfl (fun W hW => (hpl (cs := cx) (cd := cd) _ W hW (hSt hW (fun p hp => List.mem_cons_of_mem _ (List.mem_cons_of_mem _ (List.mem_append_right _ hp)))) hrl hrd (hDat hW (fun p hp => List.mem_cons_of_mem _ (List.mem_cons_of_mem _ (List.mem_append_left _ hp))))).mono ?_) (fun i1 => ?_)
    · rintro e w' ⟨g1, g2⟩
      rcases g2 with ⟨g3, _⟩ | ⟨_, i, g3, g4, g5⟩
      · exact absurd hp0 g3
      · rw [Int.toNat_natCast, Int.toNat_natCast, hpa] at g3 g5
        rw [hpl1] at g3
        exact ⟨i, g3, g1, g4, g5⟩
    repeat ((fail_if_success refine c_probe (id := 27) ?_); (fail_if_success refine c_probe1 (id := 27) ?_); first | refine l_val rfl rfl (by first | exact pureEval_ok rfl | exact v_load rfl (by repeat (first | exact List.Mem.head _ | apply List.Mem.tail)) rfl (by rfl)  | fail) ?_ | refine l_nil ?_ | refine c_region ?_ | refine c_seq ?_ | refine x_then ?_ | refine c_dec_f rfl (by first | omega  | fail) ?_ | refine c_block ?_ | refine c_skip ?_  | fail)
    refine c_loop (ι := LS) (fun s => s.i ≤ N ∧ gOK inE 1 (tmL (pa.take s.i)) s.c s.r) (fun s => [(1, .int .i64 t), (4, .pointer (some ⟨b4, 0, none⟩)), (12, .slice D wt.length cd), (20, .slice (some ⟨i1.b, 0, none⟩) N i1.c), (22, gSl (tmL (pa.take s.i)) s.b s.c), (90, .slice (some ⟨bR, 0, none⟩) 2 2), (91, .int .i64 2), (92, .int .i64 k), (126, .slice (some ⟨i1.b, 0, none⟩) N i1.c), (127, .int .i64 N), (128, .int .i64 s.i)])
      (fun s => (i1.b, .cells ⟨flI pa ++ i1.r⟩ 3 (0, 0)) :: (bR, .cells ⟨[.slice S1 ra.length c1, .slice o.A o.rows.length o.c]⟩ 25 (0, 0)) :: (b4, .cells ⟨[.int .i64 N, .slice A L.length ca, .slice B C.length cb]⟩ 24 (0, 0)) :: (gM inE 3 (tmL (pa.take s.i)) s.b s.r ++ (gM inE 3 wt bb rr ++ o.m))) (fun s => N - s.i) ⟨0, 0, 0, []⟩ ⟨Nat.zero_le _, fun h => absurd rfl h⟩ (by repeat (first | exact EnvSub.nil | refine EnvSub.cons rfl (by first | rfl | (congr 1; done) | (exact congrArg (Value.int _) (by omega)) | (simp; done)) ?_)) (by repeat (first | exact MSub.nil | refine MSub.keep (by first | rfl | assumption) ?_ | refine MSub.drop ?_ | exact MSub.refl _)) ?_
    rintro ⟨i, b2, c2, r2⟩ ⟨hi, hgr⟩
    simp only at hi hgr ⊢
    obtain ⟨Y, cy, hY⟩ := gSl_len (l := tmL (pa.take i)) (b := b2) (cap := c2)
    rw [hY]
    have htl : (tmL (pa.take i)).length = i := by rw [tmL_len, List.length_take]; omega
    by_cases hiN : i < N
    · obtain ⟨v, hv⟩ : ∃ v, pa[i]? = some v := ⟨_, List.getElem?_eq_getElem (by omega)⟩
      have hvb := hpb v (List.mem_of_getElem? hv)
      have hcx : (flI pa ++ i1.r)[i]? = some (.int .i64 v) := flI_get hv _
      have hsu : tmL (pa.take (i + 1)) = tmL (pa.take i) ++ [v - 1] := by unfold tmL; rw [List.take_add_one, hv, List.map_append]; rfl
      have hgr' := fun (_ : Unit) => hgr
      clear hgr
      repeat (first | refine l_val rfl rfl (by first | exact v_add rfl rfl (by omega) (by omega) | exact v_sub rfl rfl (by omega) (by omega) | exact pureEval_ok rfl | exact v_index rfl rfl rfl rfl (by omega) (by omega) (by with_reducible first | exact idx1 _   | fail) | exact v_load_at rfl (by repeat (first | exact List.Mem.head _ | apply List.Mem.tail)) rfl rfl (by first | assumption  | fail)  | fail) ?_ | refine l_nil ?_ | refine c_region ?_ | refine c_seq ?_ | refine x_then ?_ | refine r_buildSlice rfl rfl rfl rfl rfl rfl (by rfl) (fun _ => ?_) | refine c_dec_t rfl (by first | omega  | fail) ?_ | refine c_dec_f rfl (by first | omega  | fail) ?_ | refine c_block ?_ | refine c_skip ?_ | refine l_dec_f rfl rfl rfl rfl rfl (by first | omega  | fail) ?_  | fail)
      refine r_appendZ (f := inE) (e := 3) (sz := 1) (xs := tmL (pa.take i)) (ys := [v - 1]) (m := 1) rfl rfl (congrArg some hY.symm) rfl rfl rfl rfl (.inr ⟨_, 0, rfl, news_own (by repeat (first | exact List.Mem.head _ | apply List.Mem.tail))⟩) (List.perm_append_comm_assoc [_, _, _, _] _ _) (hgr' ()) inE_rows rfl rfl (by omega) (by unfold maxLen; omega) (fun b' c' r' hg' => ?_)
      rw [← hsu] at hg' ⊢
      refine l_perm (List.perm_append_comm_assoc _ [_, _, _, _] _) ?_
      obtain ⟨A2', k2', hA2'⟩ := gSl_len (l := tmL (pa.take (i + 1))) (b := b') (cap := c')
      rw [hA2']
      simp only [List.cons_append, List.nil_append]
      repeat (first | refine l_val rfl rfl (by first | exact v_add rfl rfl (by omega) (by omega) | exact pureEval_ok rfl  | fail) ?_ | refine l_nil ?_ | refine c_region ?_ | refine x_then ?_ | refine x_block ?_  | fail)
      rw [← hA2']
      exact x_back ⟨i + 1, b', c', r'⟩ ⟨hiN, hg'⟩ (by simp only; omega) (by repeat (first | exact EnvSub.nil | refine EnvSub.cons rfl (by first | rfl | (congr 1; done) | (exact congrArg (Value.int _) (by omega)) | (simp; done)) ?_)) (by repeat (first | exact MSub.nil | refine MSub.keep (by first | rfl | assumption) ?_ | refine MSub.drop ?_ | exact MSub.refl _))
    have hiE : i = N := by omega
    subst hiE
    have htk : pa.take i = pa := by rw [← hpl1]; exact List.take_length
    rw [htk] at hgr hY htl ⊢
    clear hgr
    have hYat : ∀ {mem : List (Nat × Obj)} {W : World}, SatW w (base w) noJ mem W → (∀ p ∈ gM inE 3 (tmL pa) b2 r2, p ∈ mem) → At W Y 1 ((tmL pa).map inE) := fun {mem W} hW hm => by
      obtain ⟨A', c', hA', hat⟩ := gSlI_at (cap := c2) hW hm
      rw [hY] at hA'
      obtain ⟨e, _, _⟩ := Value.slice.inj hA'
      rw [e]; exact hat
    have hmt := tm_meets (Classical.byContradiction fun h => by rw [R23.chkU_a h] at k0; exact h k0) hkp hdj (by omega) hFine
    have hpok : R23.PlayOK i L C (tmL pa) wt := ⟨k0, by rw [htl], tm_tmB hkp hdj (by omega), hdl, fun j hj => by
      obtain ⟨y, hy⟩ : ∃ y, C[j]? = some y := ⟨_, List.getElem?_eq_getElem hj⟩
      have := hwb j y hy
      unfold loOf hiOf
      rw [hy]; exact this⟩
    obtain ⟨pe, pr⟩ := R23.plE_ok hpok
    rw [Int.toNat_natCast, tm_play hTree hkp hdj] at pr
    repeat (first | refine l_val rfl rfl (by first | exact pureEval_ok rfl | exact v_load rfl (by repeat (first | exact List.Mem.head _ | apply List.Mem.tail)) rfl (by rfl) | exact v_build rfl rfl (by rfl)  | fail) ?_ | refine l_nil ?_ | refine c_region ?_ | refine c_seq ?_ | refine x_then ?_ | refine c_dec_f rfl (by first | omega  | fail) ?_ | refine c_exit ?_ | refine x_then_exit ?_ | refine x_block_same ?_  | fail)
    refine r_call (v := .tuple ⟨[.bool true, .int .i64 0]⟩) rfl rfl rfl (fun W hW => ?_) ?_
    · have := R22.Meets_calls i A Y ca cy L (tmL pa) W (by omega) (by omega) (hAl.sat hW) (hYat hW (fun p hp => List.mem_cons_of_mem _ (List.mem_cons_of_mem _ (List.mem_cons_of_mem _ (List.mem_append_left _ hp)))))
      rw [hmt] at this
      exact this
    repeat (first | refine l_val rfl rfl (by first | exact pureEval_ok rfl | exact v_load rfl (by repeat (first | exact List.Mem.head _ | apply List.Mem.tail)) rfl (by rfl)  | fail) ?_ | refine l_nil ?_ | refine c_region ?_ | refine c_seq ?_ | refine x_then ?_  | fail)
    refine r_call1 (ι := PlI) (v := fun j => .tuple ⟨[.slice (some ⟨j.b, 0, none⟩) (tmL pa).length j.c, .int .i64 0]⟩) (bk := fun j => j.b) (o := fun j => .cells ⟨flI (tmL pa) ++ j.r⟩ 3 (0, 0)) rfl rfl rfl (fun W hW => (hcp (cx := cy) (cd := cd) _ W hW (hYat hW (fun p hp => List.mem_cons_of_mem _ (List.mem_cons_of_mem _ (List.mem_cons_of_mem _ (List.mem_append_left _ hp))))) (hDat hW (fun p hp => List.mem_cons_of_mem _ (List.mem_cons_of_mem _ (List.mem_cons_of_mem _ (List.mem_append_right _ (List.mem_append_left _ hp)))))) (by omega) (by omega)).mono ?_) (fun i2 => ?_)
    · rintro e w' ⟨v, g1, g2, g3⟩
      rw [pe] at g1
      rw [pr] at g2
      rcases g2 with ⟨g4, _⟩ | ⟨b, cap, rest, g4, g5, g6, g7⟩
      · rw [g4] at htl; simp at htl; omega
      · exact ⟨⟨b, cap, rest⟩, by rw [g1, g4], g3, g6, g7⟩
    repeat (first | refine l_val rfl rfl (by first | exact pureEval_ok rfl  | fail) ?_ | refine l_nil ?_ | refine c_region ?_ | refine c_seq ?_ | refine x_then ?_  | fail)
    refine r_call (v := .bool true) rfl rfl rfl (fun W hW => ?_) ?_
    · have := same15_calls (some ⟨i2.b, 0, none⟩) Y i2.c cy (tmL pa) (tmL pa) W (list_at i2.r hW (b := i2.b) (T := 3) (fr := (0, 0)) (by repeat (first | exact List.Mem.head _ | apply List.Mem.tail))) (hYat hW (fun p hp => List.mem_cons_of_mem _ (List.mem_cons_of_mem _ (List.mem_cons_of_mem _ (List.mem_cons_of_mem _ (List.mem_append_left _ hp)))))) (by omega)
      rw [decide_eq_true rfl] at this
      exact this
    repeat (first | refine l_val rfl rfl (by first | exact v_add rfl rfl (by omega) (by omega) | exact pureEval_ok rfl  | fail) ?_ | refine l_nil ?_ | refine c_region ?_ | refine x_then ?_ | refine c_false rfl ?_ | refine c_skip ?_ | refine x_block ?_  | fail)
    refine x_sub ((bR, .cells ⟨[.slice S1 ra.length c1, .slice o.A o.rows.length o.c]⟩ 25 (0, 0)) :: (b4, .cells ⟨[.int .i64 i, .slice A L.length ca, .slice B C.length cb]⟩ 24 (0, 0)) :: (gM inE 3 wt bb rr ++ o.m)) (List.Sublist.cons _ (List.Sublist.cons _ (List.Sublist.cons_cons _ (List.Sublist.cons_cons _ (List.sublist_append_right _ _))))) ?_
    exact x_back (k + 1) hlt (by omega) (by repeat (first | exact EnvSub.nil | refine EnvSub.cons rfl (by first | rfl | (congr 1; done) | (exact congrArg (Value.int _) (by omega)) | (simp; done)) ?_)) (by repeat (first | exact MSub.nil | refine MSub.keep (by first | rfl | assumption) ?_ | refine MSub.drop ?_ | exact MSub.refl _))
  · have hk2 : k = 2 := by omega
    subst hk2
    repeat (first | refine l_val rfl rfl (by first | exact pureEval_ok rfl  | fail) ?_ | refine l_nil ?_ | refine c_region ?_ | refine c_seq ?_ | refine x_then ?_ | refine c_false rfl ?_ | refine c_ret ?_ | refine c_exit ?_ | refine x_then_exit ?_ | refine x_block_same ?_  | fail)
    exact x_ret rfl rfl (by repeat (first | exact Res.nil | (apply Res.tmp; rfl) | (apply Res.cell; rfl; exact (by repeat (first | exact List.Mem.head _ | apply List.Mem.tail)); rfl; rfl))) rfl (fun W hW => ⟨rfl, hW.below⟩)
end R24
end Go.Proofs

/- Games on networks: the law Strong, walked. -/
import Derived.Test.YtcodoembnjemkaaCtSol
import Derived.Test.YtcodoembnjemkaaSgL6
set_option maxRecDepth 100000
set_option maxHeartbeats 400000000
set_option linter.unusedSectionVars false
set_option linter.unusedVariables false
set_option linter.unusedSimpArgs false
namespace Go.Proofs
open Go.RowKit Go.Kin Go.Kin.St Go.Kin.Ct Go.Kin.Sg
namespace R24
theorem tzL_flI {N : Nat} {z : Nat -> Int} : flI (tzL N z) = ivec N z := by rw [flI_map]; unfold tzL; rw [List.map_map]; rfl
theorem lgL_succ {C : List Lk} {k : Nat} {x : Lk} (h : C[k]? = some x) : lgL (C.take (k + 1)) = lgL (C.take k) ++ [x.hi] := by unfold lgL; rw [List.take_add_one, h, List.map_append]; rfl
def leB (l : List Int) (t : Int) (k : Nat) : Bool := (l.take k).all fun x => decide (x <= t)
theorem leB_succ {l : List Int} {t : Int} {k : Nat} {x : Int} (h : l[k]? = some x) : leB l t (k + 1) = (leB l t k && decide (x <= t)) := by unfold leB; rw [List.take_add_one, h, List.all_append]; simp
theorem leB_all {l : List Int} {t : Int} {k : Nat} (h : l.length <= k) : leB l t k = true ↔ ∀ x ∈ l, x <= t := by
 unfold leB
 rw [List.take_of_length_le h, List.all_eq_true]
 exact ⟨fun h x hx => of_decide_eq_true (h x hx), fun h x hx => decide_eq_true (h x hx)⟩
theorem law7_of (hstr : ∀ (u : R23.Un) (w : World), u.In w -> u.L.length <= 1000 -> (R23.chkU u.n u.L u.C = 0 -> u.L.length <= 30 /\ u.C.length <= 30) -> Calls Try.prog 22 ⟨[.agg ⟨u.v⟩]⟩ w (R23.StrQ u.n u.L u.C w))
  (u : R23.Un) (T : Int) (w : World) (hA : u.In w) :
  Calls Try.prog 7 ⟨[.agg ⟨u.v⟩, .int .i64 T]⟩ w fun e w' => e = .returned (.bool true) /\ Below w.heap.size w w' := by
 have hfew : ∀ (mem : List (Nat × Obj)) (W : World), SatW w (base w) noJ mem W -> Calls Try.prog 9 ⟨[.agg ⟨u.v⟩, .int .i64 T]⟩ W fun e w' => e = .returned (.bool (fwB u.n u.L u.C T)) /\ Below W.heap.size W w' := fun mem W hW => FewS_calls u T W (hA.sat hW)
 have hck : u.L.length <= 1000 -> u.C.length <= 1000 -> ∀ (mem : List (Nat × Obj)) (W : World), SatW w (base w) noJ mem W -> Calls Try.prog 13 ⟨[.agg ⟨u.v⟩, .int .i64 T]⟩ W fun e w' => e = .returned (.int .i64 (chkS u.n u.L u.C T)) /\ Below W.heap.size W w' := fun hl hc mem W hW => CheckS_calls u T W (hA.sat hW) hl hc
 have hcp : u.L.length <= 1000 -> ∀ {X D : Option Addr} {cx cd : Nat} {tl wt : List Int} (mem : List (Nat × Obj)) (W : World), SatW w (base w) noJ mem W -> At W X 1 (tl.map inE) -> At W D 1 (wt.map inE) -> tl.length <= 9223372036854775807 -> wt.length <= 9223372036854775807 -> Calls Try.prog 21 ⟨[.agg ⟨u.v⟩, .slice X tl.length cx, .slice D wt.length cd]⟩ W (R23.PlayQ u.n u.L u.C tl wt W) := fun hl X D cx cd tl wt mem W hW hX hD l1 l2 => R23.Play_calls u X D cx cd tl wt W (hA.sat hW) hl hX hD l1 l2
 have hst : u.L.length <= 1000 -> (R23.chkU u.n u.L u.C = 0 -> u.L.length <= 30 /\ u.C.length <= 30) -> ∀ (mem : List (Nat × Obj)) (W : World), SatW w (base w) noJ mem W -> Calls Try.prog 22 ⟨[.agg ⟨u.v⟩]⟩ W (R23.StrQ u.n u.L u.C W) := fun hl hf mem W hW => hstr u W (hA.sat hW) hl hf
 have hAA : ∀ (mem : List (Nat × Obj)) (W : World), SatW w (base w) noJ mem W -> u.In W := fun mem W hW => hA.sat hW
 have hAl := hA.l
 have hAc := hA.c
 obtain ⟨n, A, ca, L, B, cb, C⟩ := u
 simp only [R23.Un.v] at hfew hck hcp hst ⊢
 simp only at hAl hAc
 refine fEn Try.func7 rfl Try.ntmps7 rfl rfl (sWn w) ?_
 repeat (first|refine lVa rfl rfl (by first|exact pEv rfl|fail) ?_|refine lNi ?_|refine cRg ?_|refine cSq ?_|refine xTh ?_|refine r_box rfl rfl rfl rfl (fun _ => ?_)|fail)
 rename_i b2
 refine r_call rfl rfl rfl (fun W hW => sane_calls W) ?_
 repeat (first|refine lVa rfl rfl (by first|exact pEv rfl|exact vLd rfl (by repeat constructor) rfl (by rfl)|fail) ?_|refine lNi ?_|refine cRg ?_|refine cSq ?_|refine xTh ?_|refine c_false rfl ?_|refine cSk ?_|fail)
 refine r_call rfl rfl rfl (fun W hW => hfew _ W hW) ?_
 cases hf : fwB n L C T with
 | false =>
  repeat (first|refine lVa rfl rfl (by first|exact pEv rfl|exact vLd rfl (by repeat constructor) rfl (by rfl)|fail) ?_|refine lNi ?_|refine cRg ?_|refine cSq ?_|refine xTh ?_|refine l_skip rfl rfl ?_|refine c_true rfl ?_|refine c_ret ?_|refine xTr ?_|fail)
  exact x_ret rfl rfl (by repeat constructor) rfl (fun W hW => ⟨rfl, hW.below⟩)
 | true =>
 obtain ⟨hl, hc, hfw⟩ := fwB_ok hf
 have hck := hck (by omega) (by omega)
 have hcp := fun {X D cx cd tl wt} => hcp (by omega) (X := X) (D := D) (cx := cx) (cd := cd) (tl := tl) (wt := wt)
 repeat (first|refine lVa rfl rfl (by first|exact pEv rfl|exact vLd rfl (by repeat constructor) rfl (by rfl)|fail) ?_|fail)
 refine r_call rfl rfl rfl (fun W hW => hck _ W hW) ?_
 by_cases h0 : chkS n L C T = 0
 rotate_left
 ·repeat (first|refine lVa rfl rfl (by first|exact pEv rfl|fail) ?_|refine lNi ?_|refine cRg ?_|refine cSq ?_|refine xTh ?_|refine c_dec_t rfl (by first|omega|fail) ?_|refine c_ret ?_|refine xTr ?_|fail)
  exact x_ret rfl rfl (by repeat constructor) rfl (fun W hW => ⟨rfl, hW.below⟩)
 rw [h0]
 obtain ⟨k0, t1, t2, t3, t4, t5⟩ := chkS_ok h0
 obtain ⟨n1, n2a, n2b, n2c, hFine, hTree⟩ := R23.chkU_ok k0
 obtain ⟨t, rfl⟩ : ∃ t : Nat, T = t := ⟨T.toNat, by omega⟩
 obtain ⟨N, rfl⟩ : ∃ N : Nat, n = N := ⟨n.toNat, by omega⟩
 have hfw2 := hfw h0
 rw [Int.toNat_natCast, Int.toNat_natCast] at hfw2
 rw [Int.toNat_natCast] at hTree
 have h30 : L.length <= 30 /\ C.length <= 30 := by
  unfold fwB at hf
  rw [Bool.and_eq_true] at hf
  have h2 := hf.1
  unfold R23.fewB at h2
  have := of_decide_eq_true h2
  omega
 have hst := hst (by omega) (fun _ => h30)
 have hchk : R22.chk N L = 0 := Classical.byContradiction fun h => by rw [R23.chkU_a h] at k0; exact h k0
 obtain ⟨can, hcan⟩ : ∃ can : Bool, can = true ↔ Vt ⟨N, t, L, C⟩ 0 (List.replicate N 0) := ⟨@decide _ (Classical.propDecidable _), @decide_eq_true_iff _ (Classical.propDecidable _)⟩
 repeat (first|refine lVa rfl rfl (by first|exact pEv rfl|exact vLd rfl (by repeat constructor) rfl (by rfl)|fail) ?_|refine lNi ?_|refine cRg ?_|refine cSq ?_|refine xTh ?_|refine c_false rfl ?_|refine cSk ?_|fail)
 refine r_callI (ι := Option Addr × Nat × Nat) (v := fun i => .tuple ⟨[.slice i.1 i.2.1 i.2.2, .bool can, .int .i64 0]⟩) rfl rfl rfl (fun W hW => (Solve_calls N t A B ca cb L C W (hAA _ W hW) (by omega) (by omega) h0 hfw2).mono ?_) ?_
 ·rintro e w' h
  by_cases hv : Vt ⟨N, t, L, C⟩ 0 (List.replicate N 0)
  ·obtain ⟨⟨i, hi⟩, g1, g2, _⟩ := sol_yes hv h
   obtain ⟨X, c, hX⟩ := gSl_len (l := i.rows) (b := i.b) (cap := i.c)
   refine ⟨(X, i.rows.length, c), ?_, g2⟩
   rw [g1, hcan.2 hv]
   unfold yesS SolI.v
   rw [hX]
  ·obtain ⟨g1, g2⟩ := sol_no hv h
   have hc0 : can = false := by
    cases can with
    | false => rfl
    | true => exact absurd (hcan.1 rfl) hv
   exact ⟨(none, 0, 0), by rw [g1, hc0]; rfl, g2⟩
 rintro ⟨o1, o2, o3⟩
 simp only
 repeat ((fail_if_success refine c_probe (id := 6) ?_); (fail_if_success refine c_probe1 (id := 6) ?_); first|refine lVa rfl rfl (by first|exact pEv rfl|fail) ?_|refine lNi ?_|refine xTh ?_|fail)
 refine c_joinI (ι := Option ((Nat -> Int) × Nat)) (fun i => R23.str N L C = i.map (·.1)) (fun i => [(1, .int .i64 t), (2, .pointer (some ⟨b2, 0, none⟩)), (6, .bool can), (7, .int .i64 0), (8, match i with | some p => .slice (some ⟨p.2, 0, none⟩) N N | none => .slice none 0 0), (9, .bool i.isSome), (10, .int .i64 0)])
  (fun i => match i with | some p => [(p.2, .cells ⟨ivec N p.1⟩ 3 (0, 0)), (b2, .cells ⟨[.int .i64 N, .slice A L.length ca, .slice B C.length cb]⟩ 24 (0, 0))] | none => [(b2, .cells ⟨[.int .i64 N, .slice A L.length ca, .slice B C.length cb]⟩ 24 (0, 0))]) ?_ (fun i hi => ?_)
 ·cases hz : R23.str N L C with
  | none =>
   repeat (first|refine lVa rfl rfl (by first|exact vLd rfl (by repeat constructor) rfl (by rfl)|fail) ?_|refine cRg ?_|fail)
   refine r_call (v := R23.noV 0) rfl rfl rfl (fun W hW => (hst _ W hW).mono ?_) ?_
   ·rintro e w' (⟨_, g1, g2⟩ | ⟨z, b, g1, _⟩)
    ·rw [k0] at g1; exact ⟨g1, g2⟩
    ·rw [hz] at g1; cases g1
   repeat (first|exact x_midI none rfl (by repeat (first|exact .nil|refine .cons rfl (by first|rfl|(congr 1; done)|exact congrArg _ (by omega)|(simp; done)) ?_)) (by repeat (first|exact .nil|refine .keep (by first|rfl|assumption) ?_|refine .drop ?_|exact MSub.refl _))|refine lVa rfl rfl (by first|exact pEv rfl|fail) ?_|refine lNi ?_|fail)
  | some z =>
   repeat (first|refine lVa rfl rfl (by first|exact vLd rfl (by repeat constructor) rfl (by rfl)|fail) ?_|refine cRg ?_|fail)
   refine r_call1 (ι := Nat) (v := fun b => R23.yesV N b) (bk := fun b => b) (o := fun _ => .cells ⟨ivec N z⟩ 3 (0, 0)) rfl rfl rfl (fun W hW => (hst _ W hW).mono ?_) (fun b => ?_)
   ·rintro e w' (⟨g1, _⟩ | ⟨z', b, g1, g2, g3, g4, g5⟩)
    ·rw [hz] at g1; cases g1
    ·rw [hz] at g1; cases g1
     rw [Int.toNat_natCast] at g2 g5
     exact ⟨b, g2, g3, g4, g5⟩
   repeat (first|exact x_midI (some (z, b)) rfl (by repeat (first|exact .nil|refine .cons rfl (by first|rfl|(congr 1; done)|exact congrArg _ (by omega)|(simp; done)) ?_)) (by repeat (first|exact .nil|refine .keep (by first|rfl|assumption) ?_|refine .drop ?_|exact MSub.refl _))|refine lVa rfl rfl (by first|exact pEv rfl|fail) ?_|refine lNi ?_|fail)
 repeat ((fail_if_success refine c_probe (id := 9) ?_); (fail_if_success refine c_probe1 (id := 9) ?_); first|refine lVa rfl rfl (by first|exact pEv rfl|fail) ?_|refine lNi ?_|refine cRg ?_|refine cSq ?_|refine xTh ?_|refine c_false rfl ?_|refine cSk ?_|fail)
 repeat refine cSq ?_
 refine cRg ?_
 refine lVa rfl rfl (pEv rfl) ?_
 refine lNi ?_
 refine xTh ?_
 refine c_share [(1, .int .i64 t), (2, .pointer (some ⟨b2, 0, none⟩)), (6, .bool can)] [(b2, .cells ⟨[.int .i64 N, .slice A L.length ca, .slice B C.length cb]⟩ 24 (0, 0))] ?_ (fun hsh => ?_)
 rotate_left
 ·cases i with
  | none =>
   simp only [Option.isSome_none]
   repeat (first|exact hsh (by repeat (first|exact .nil|refine .cons rfl (by first|rfl|(congr 1; done)|exact congrArg _ (by omega)|(simp; done)) ?_)) (by repeat (first|exact .nil|refine .keep (by first|rfl|assumption) ?_|refine .drop ?_|exact MSub.refl _))|refine c_false rfl ?_|refine cSk ?_|fail)
  | some p =>
   obtain ⟨z, bz⟩ := p
   simp only [Option.isSome_some, Option.map_some] at hi ⊢
   repeat ((fail_if_success refine c_probe (id := 12) ?_); (fail_if_success refine c_probe1 (id := 12) ?_); first|refine lVa rfl rfl (by first|exact pEv rfl|exact vLd rfl (by repeat constructor) rfl (by rfl)|fail) ?_|refine lNi ?_|refine cRg ?_|refine cSq ?_|refine xTh ?_|refine c_true rfl ?_|refine cBl ?_|fail)
   refine c_loop (ι := LS) (fun s => s.i <= C.length /\ gOK inE 1 (lgL (C.take s.i)) s.c s.r) (fun s => [(1, .int .i64 t), (2, .pointer (some ⟨b2, 0, none⟩)), (6, .bool can), (8, .slice (some ⟨bz, 0, none⟩) N N), (11, gSl (lgL (C.take s.i)) s.b s.c), (57, .slice B C.length cb), (58, .int .i64 C.length), (59, .int .i64 s.i)])
    (fun s => (bz, .cells ⟨ivec N z⟩ 3 (0, 0)) :: (b2, .cells ⟨[.int .i64 N, .slice A L.length ca, .slice B C.length cb]⟩ 24 (0, 0)) :: gM inE 3 (lgL (C.take s.i)) s.b s.r) (fun s => C.length - s.i) ⟨0, 0, 0, []⟩ ⟨Nat.zero_le _, fun h => absurd rfl h⟩ (by repeat (first|exact .nil|refine .cons rfl (by first|rfl|(congr 1; done)|exact congrArg _ (by omega)|(simp; done)) ?_)) (by repeat (first|exact .nil|refine .keep (by first|rfl|assumption) ?_|refine .drop ?_|exact MSub.refl _)) ?_
   rintro ⟨j, bb, cc, rr⟩ ⟨hj, hgr⟩
   simp only at hj hgr ⊢
   obtain ⟨D, cd, hD⟩ := gSl_len (l := lgL (C.take j)) (b := bb) (cap := cc)
   have hdl : (lgL (C.take j)).length = j := by unfold lgL; rw [List.length_map, List.length_take]; omega
   rw [hD]
   by_cases hlt : j < C.length
   ·obtain ⟨x, hx⟩ : ∃ x, C[j]? = some x := ⟨_, List.getElem?_eq_getElem hlt⟩
    obtain ⟨bB, oB, rfl, hcB⟩ := hAc j (lkE x) (by rw [List.getElem?_map, hx]; rfl)
    have eB := ext_of hcB
    have hsu := lgL_succ hx
    have hgr' := fun (_ : Unit) => hgr
    clear hgr
    repeat (first|refine lVa rfl rfl (by first|exact pEv rfl|exact vLd rfl (by repeat constructor) rfl (by rfl)|exact vL0 rfl (by assumption) rfl (by rfl)|exact v_index rfl rfl rfl rfl (by omega) (by omega) (by with_reducible first|exact idx4 _ _ _|fail)|fail) ?_|refine lNi ?_|refine cRg ?_|refine cSq ?_|refine xTh ?_|refine r_alloc rfl rfl rfl (by first|exact aggL|fail) (fun _ => ?_)|refine rSt rfl rfl rfl rfl rfl rfl rfl (by repeat constructor) (by rfl) ?_|refine r_buildSlice rfl rfl rfl rfl rfl rfl (by rfl) (fun _ => ?_)|refine c_dec_t rfl (by first|omega|fail) ?_|refine cBl ?_|refine cSk ?_|fail)
    refine r_appendZ (f := inE) (e := 3) (sz := 1) (xs := lgL (C.take j)) (ys := [x.hi]) (m := 1) rfl rfl (congrArg some hD.symm) rfl rfl rfl rfl (.inr ⟨_, 0, rfl, news_own (by repeat constructor)⟩) (List.perm_append_comm (l₁ := [_, _, _, _])) (hgr' ()) inE_rows rfl rfl (by omega) (by unfold maxLen; omega) (fun b' c' r' hg' => ?_)
    rw [<- hsu] at hg' ⊢
    refine l_perm List.perm_append_comm ?_
    obtain ⟨A2', k2', hA2'⟩ := gSl_len (l := lgL (C.take (j + 1))) (b := b') (cap := c')
    rw [hA2']
    simp only [List.cons_append, List.nil_append]
    repeat (first|refine lVa rfl rfl (by first|exact v_add rfl rfl (by omega) (by omega)|exact pEv rfl|fail) ?_|refine lNi ?_|refine cRg ?_|refine xTh ?_|refine x_block ?_|fail)
    rw [<- hA2']
    exact x_back ⟨j + 1, b', c', r'⟩ ⟨hlt, hg'⟩ (by simp only; omega) (by repeat (first|exact .nil|refine .cons rfl (by first|rfl|(congr 1; done)|exact congrArg _ (by omega)|(simp; done)) ?_)) (by repeat (first|exact .nil|refine .keep (by first|rfl|assumption) ?_|refine .drop ?_|exact MSub.refl _))
   have hjC : j = C.length := by omega
   subst hjC
   rw [List.take_length] at hD hdl hgr ⊢
   clear hgr
   have hDat : ∀ {mem : List (Nat × Obj)} {W : World}, SatW w (base w) noJ mem W -> (∀ p ∈ gM inE 3 (lgL C) bb rr, p ∈ mem) -> At W D 1 ((lgL C).map inE) := fun {mem W} hW hm => by
    obtain ⟨A', c', hA', hat⟩ := gSlI_at (cap := cc) hW hm
    rw [hD] at hA'
    obtain ⟨e, _, _⟩ := Value.slice.inj hA'
    rw [e]; exact hat
   have hok : R23.PlayOK N L C (tzL N z) (lgL C) := ⟨k0, by rw [tzL_len], str_times k0 (by omega) hTree hFine h30.2 hi, hdl, fun i hi => by rw [lgL_tf hi]; have := cal_of hTree hi; omega⟩
   obtain ⟨pe, pr⟩ := R23.plE_ok hok
   rw [Int.toNat_natCast] at pr
   obtain ⟨la, hla⟩ : ∃ la, R23.plL C N (tzL N z) (lgL C) = la := ⟨_, rfl⟩
   rw [hla] at pr
   have hlal : la.length = N := by rw [<- hla]; exact R23.plL_len
   have hwin : (∀ x ∈ la, x <= (t : Int)) -> can = true := fun h => hcan.2 (str_wins k0 t5 hTree hFine hi (by rw [hla]; exact h))
   repeat (first|refine lVa rfl rfl (by first|exact pEv rfl|exact vLd rfl (by repeat constructor) rfl (by rfl)|fail) ?_|refine lNi ?_|refine cRg ?_|refine cSq ?_|refine xTh ?_|refine c_dec_f rfl (by first|omega|fail) ?_|refine c_exit ?_|refine xTe ?_|refine xBs ?_|fail)
   refine r_call1 (ι := PlI) (v := fun j => .tuple ⟨[.slice (some ⟨j.b, 0, none⟩) N j.c, .int .i64 0]⟩) (bk := fun j => j.b) (o := fun j => .cells ⟨flI la ++ j.r⟩ 3 (0, 0)) rfl rfl rfl (fun W hW => ?_) (fun i2 => ?_)
   ·have := hcp (X := some ⟨bz, 0, none⟩) (D := D) (cx := N) (cd := cd) (tl := tzL N z) (wt := lgL C) _ W hW (list_at [] hW (b := bz) (T := 3) (fr := (0, 0)) (by rw [List.append_nil, tzL_flI]; exact (by repeat constructor))) (hDat hW (fun p hp => List.mem_cons_of_mem _ (List.mem_cons_of_mem _ hp))) (by rw [tzL_len]; omega) (by omega)
    rw [tzL_len] at this
    refine this.mono ?_
    rintro e w' ⟨v, g1, g2, g3⟩
    rw [pe] at g1
    rw [pr] at g2
    rcases g2 with ⟨g4, _⟩ | ⟨b, cap, rest, g4, g5, g6, g7⟩
    ·rw [g4] at hlal; simp at hlal; omega
    ·rw [hlal] at g4
     exact ⟨⟨b, cap, rest⟩, by rw [g1, g4], g3, g6, g7⟩
   repeat ((fail_if_success refine c_probe (id := 19) ?_); (fail_if_success refine c_probe1 (id := 19) ?_); first|refine lVa rfl rfl (by first|exact pEv rfl|fail) ?_|refine lNi ?_|refine cRg ?_|refine cSq ?_|refine xTh ?_|refine cBl ?_|fail)
   refine c_loop (ι := Nat) (fun k => k <= N) (fun k => [(1, .int .i64 t), (2, .pointer (some ⟨b2, 0, none⟩)), (6, .bool can), (15, .int .i64 0), (16, .bool (leB la t k)), (76, .slice (some ⟨i2.b, 0, none⟩) N i2.c), (77, .int .i64 N), (78, .int .i64 k)])
    (fun _ => [(i2.b, .cells ⟨flI la ++ i2.r⟩ 3 (0, 0)), (b2, .cells ⟨[.int .i64 N, .slice A L.length ca, .slice B C.length cb]⟩ 24 (0, 0))]) (fun k => N - k) 0 (Nat.zero_le _) (by repeat (first|exact .nil|refine .cons rfl (by first|rfl|(congr 1; done)|exact congrArg _ (by omega)|(simp; done)) ?_)) (by repeat (first|exact .nil|refine .keep (by first|rfl|assumption) ?_|refine .drop ?_|exact MSub.refl _)) ?_
   intro k hk
   by_cases hkN : k < N
   ·obtain ⟨v, hv⟩ : ∃ v, la[k]? = some v := ⟨_, List.getElem?_eq_getElem (by omega)⟩
    have hcx : (flI la ++ i2.r)[k]? = some (.int .i64 v) := flI_get hv _
    have hsu := leB_succ (t := t) hv
    cases hw : leB la t k with
    | false =>
     rw [hw, Bool.false_and] at hsu
     repeat (first|refine lVa rfl rfl (by first|exact v_add rfl rfl (by omega) (by omega)|exact pEv rfl|exact v_index rfl rfl rfl rfl (by omega) (by omega) (by with_reducible first|exact idx1 _|fail)|exact v_load_at rfl (by repeat constructor) rfl rfl (by first|assumption|fail)|fail) ?_|refine lNi ?_|refine cRg ?_|refine cSq ?_|refine xTh ?_|refine l_skip rfl rfl ?_|refine c_dec_t rfl (by first|omega|fail) ?_|refine cBl ?_|refine cSk ?_|refine x_block ?_|fail)
     refine x_back (k + 1) hkN (by omega) (by rw [hsu]; exact (by repeat (first|exact .nil|refine .cons rfl (by first|rfl|(congr 1; done)|exact congrArg _ (by omega)|(simp; done)) ?_))) (by repeat (first|exact .nil|refine .keep (by first|rfl|assumption) ?_|refine .drop ?_|exact MSub.refl _))
    | true =>
     rw [hw, Bool.true_and] at hsu
     repeat (first|refine lVa rfl rfl (by first|exact v_add rfl rfl (by omega) (by omega)|exact pEv rfl|exact v_index rfl rfl rfl rfl (by omega) (by omega) (by with_reducible first|exact idx1 _|fail)|exact v_load_at rfl (by repeat constructor) rfl rfl (by first|assumption|fail)|fail) ?_|refine lNi ?_|refine cRg ?_|refine cSq ?_|refine xTh ?_|refine c_dec_t rfl (by first|omega|fail) ?_|refine cBl ?_|refine cSk ?_|refine x_block ?_|fail)
     refine x_back (k + 1) hkN (by omega) (by rw [hsu]; exact (by repeat (first|exact .nil|refine .cons rfl (by first|rfl|(congr 1; done)|exact congrArg _ (by omega)|(simp; done)) ?_))) (by repeat (first|exact .nil|refine .keep (by first|rfl|assumption) ?_|refine .drop ?_|exact MSub.refl _))
   have hkE : k = N := by omega
   subst hkE
   cases hw : leB la t k with
   | false =>
    repeat (first|exact hsh (by repeat (first|exact .nil|refine .cons rfl (by first|rfl|(congr 1; done)|exact congrArg _ (by omega)|(simp; done)) ?_)) (by repeat (first|exact .nil|refine .keep (by first|rfl|assumption) ?_|refine .drop ?_|exact MSub.refl _))|refine lVa rfl rfl (by first|exact pEv rfl|fail) ?_|refine lNi ?_|refine cRg ?_|refine cSq ?_|refine xTh ?_|refine l_skip rfl rfl ?_|refine c_false rfl ?_|refine c_dec_f rfl (by first|omega|fail) ?_|refine cSk ?_|refine c_exit ?_|refine xTe ?_|refine xBs ?_|fail)
   | true =>
    have hc1 := hwin ((leB_all (by omega)).1 hw)
    subst hc1
    repeat (first|exact hsh (by repeat (first|exact .nil|refine .cons rfl (by first|rfl|(congr 1; done)|exact congrArg _ (by omega)|(simp; done)) ?_)) (by repeat (first|exact .nil|refine .keep (by first|rfl|assumption) ?_|refine .drop ?_|exact MSub.refl _))|refine lVa rfl rfl (by first|exact pEv rfl|fail) ?_|refine lNi ?_|refine cRg ?_|refine cSq ?_|refine xTh ?_|refine c_false rfl ?_|refine c_dec_f rfl (by first|omega|fail) ?_|refine cSk ?_|refine c_exit ?_|refine xTe ?_|refine xBs ?_|fail)
 by_cases hC0 : C = []
 rotate_left
 ·have hcl : 0 < (C.length : Int) := by have := List.length_pos_iff.2 hC0; omega
  repeat (first|refine lVa rfl rfl (by first|exact pEv rfl|exact vLd rfl (by repeat constructor) rfl (by rfl)|fail) ?_|refine lNi ?_|refine cRg ?_|refine cSq ?_|refine xTh ?_|refine c_dec_t rfl (by first|omega|fail) ?_|refine c_ret ?_|refine xTr ?_|fail)
  exact x_ret rfl rfl (by repeat constructor) rfl (fun W hW => ⟨rfl, hW.below⟩)
 subst hC0
 cases he : R22.ear N L with
 | none =>
  have hc1 : can = false := by
   cases can with
   | false => rfl
   | true => exact absurd (hcan.1 rfl) (ear_no hchk he)
  subst hc1
  repeat (first|refine lVa rfl rfl (by first|exact pEv rfl|exact vLd rfl (by repeat constructor) rfl (by rfl)|exact v_build rfl rfl (by rfl)|fail) ?_|refine lNi ?_|refine cRg ?_|refine cSq ?_|refine xTh ?_|refine c_false rfl ?_|refine cSk ?_|fail)
  refine r_call (v := R22.noV 0) rfl rfl rfl (fun W hW => hchk ▸ R22.earQ_none (R22.Ear_calls N A ca L W (by omega) (hAl.sat hW)) he) ?_
  repeat ((fail_if_success refine c_probe (id := 29) ?_); (fail_if_success refine c_probe1 (id := 29) ?_); first|refine lVa rfl rfl (by first|exact pEv rfl|fail) ?_|refine lNi ?_|refine cRg ?_|refine cSq ?_|refine xTh ?_|refine cBl ?_|fail)
  refine c_loop (ι := Unit) (fun _ => True) (fun _ => [(6, .bool false), (20, .bool false), (21, .int .i64 0), (112, .slice none 0 0), (113, .int .i64 0), (114, .int .i64 0)]) (fun _ => []) (fun _ => 0) () trivial (by repeat (first|exact .nil|refine .cons rfl (by first|rfl|(congr 1; done)|exact congrArg _ (by omega)|(simp; done)) ?_)) (by exact MSub.drop MSub.nil) ?_
  rintro ⟨⟩ -
  repeat (first|refine lVa rfl rfl (by first|exact pEv rfl|fail) ?_|refine lNi ?_|refine cRg ?_|refine cSq ?_|refine xTh ?_|refine c_false rfl ?_|refine c_ret ?_|refine c_exit ?_|refine xTe ?_|refine xBs ?_|fail)
  exact x_ret rfl rfl (by repeat constructor) rfl (fun W hW => ⟨rfl, hW.below⟩)
 | some Z =>
  have hcw : can = true ↔ ∀ x ∈ tzL N Z, x <= (t : Int) := hcan.trans (ear_yes hTree hFine he)
  have hzl : (tzL N Z).length = N := tzL_len
  repeat (first|refine lVa rfl rfl (by first|exact pEv rfl|exact vLd rfl (by repeat constructor) rfl (by rfl)|exact v_build rfl rfl (by rfl)|fail) ?_|refine lNi ?_|refine cRg ?_|refine cSq ?_|refine xTh ?_|refine c_false rfl ?_|refine cSk ?_|fail)
  refine r_call1 (ι := Nat) (v := fun b => R22.yesV N b) (bk := fun b => b) (o := fun _ => .cells ⟨ivec N Z⟩ 3 (0, 0)) rfl rfl rfl (fun W hW => R22.earQ_some (R22.Ear_calls N A ca L W (by omega) (hAl.sat hW)) he) (fun b => ?_)
  repeat ((fail_if_success refine c_probe (id := 29) ?_); (fail_if_success refine c_probe1 (id := 29) ?_); first|refine lVa rfl rfl (by first|exact pEv rfl|fail) ?_|refine lNi ?_|refine cRg ?_|refine cSq ?_|refine xTh ?_|refine cBl ?_|fail)
  refine c_loop (ι := Nat) (fun k => k <= N) (fun k => [(1, .int .i64 t), (6, .bool can), (20, .bool (leB (tzL N Z) t k)), (21, .int .i64 0), (112, .slice (some ⟨b, 0, none⟩) N N), (113, .int .i64 N), (114, .int .i64 k)])
   (fun _ => [(b, .cells ⟨ivec N Z⟩ 3 (0, 0))]) (fun k => N - k) 0 (Nat.zero_le _) (by repeat (first|exact .nil|refine .cons rfl (by first|rfl|(congr 1; done)|exact congrArg _ (by omega)|(simp; done)) ?_)) (by repeat (first|exact .nil|refine .keep (by first|rfl|assumption) ?_|refine .drop ?_|exact MSub.refl _)) ?_
  intro k hk
  by_cases hkN : k < N
  ·have hv : (tzL N Z)[k]? = some (Z k) := by unfold tzL; rw [List.getElem?_map, List.getElem?_range hkN]; rfl
   have hsu := leB_succ (t := t) hv
   cases hw : leB (tzL N Z) t k with
   | false =>
    rw [hw, Bool.false_and] at hsu
    repeat (first|refine lVa rfl rfl (by first|exact v_add rfl rfl (by omega) (by omega)|exact pEv rfl|exact v_index rfl rfl rfl rfl (by omega) (by omega) (by with_reducible first|exact idx1 _|fail)|exact v_load_at rfl (by repeat constructor) rfl rfl (by first|exact ivec_get (by omega)|fail)|fail) ?_|refine lNi ?_|refine cRg ?_|refine cSq ?_|refine xTh ?_|refine l_skip rfl rfl ?_|refine c_dec_t rfl (by first|omega|fail) ?_|refine cBl ?_|refine cSk ?_|refine x_block ?_|fail)
    refine x_back (k + 1) hkN (by omega) (by rw [hsu]; exact (by repeat (first|exact .nil|refine .cons rfl (by first|rfl|(congr 1; done)|exact congrArg _ (by omega)|(simp; done)) ?_))) (by repeat (first|exact .nil|refine .keep (by first|rfl|assumption) ?_|refine .drop ?_|exact MSub.refl _))
   | true =>
    rw [hw, Bool.true_and] at hsu
    repeat (first|refine lVa rfl rfl (by first|exact v_add rfl rfl (by omega) (by omega)|exact pEv rfl|exact v_index rfl rfl rfl rfl (by omega) (by omega) (by with_reducible first|exact idx1 _|fail)|exact v_load_at rfl (by repeat constructor) rfl rfl (by first|exact ivec_get (by omega)|fail)|fail) ?_|refine lNi ?_|refine cRg ?_|refine cSq ?_|refine xTh ?_|refine c_dec_t rfl (by first|omega|fail) ?_|refine cBl ?_|refine cSk ?_|refine x_block ?_|fail)
    refine x_back (k + 1) hkN (by omega) (by rw [hsu]; exact (by repeat (first|exact .nil|refine .cons rfl (by first|rfl|(congr 1; done)|exact congrArg _ (by omega)|(simp; done)) ?_))) (by repeat (first|exact .nil|refine .keep (by first|rfl|assumption) ?_|refine .drop ?_|exact MSub.refl _))
  have hkE : k = N := by omega
  subst hkE
  have hcb : can = leB (tzL k Z) t k := by rw [Bool.eq_iff_iff, hcw, leB_all (by omega)]
  cases hw : leB (tzL k Z) t k with
  | false =>
   rw [hw] at hcb
   subst hcb
   repeat (first|refine lVa rfl rfl (by first|exact pEv rfl|fail) ?_|refine lNi ?_|refine cRg ?_|refine cSq ?_|refine xTh ?_|refine c_dec_f rfl (by first|omega|fail) ?_|refine c_ret ?_|refine c_exit ?_|refine xTe ?_|refine xBs ?_|fail)
   exact x_ret rfl rfl (by repeat constructor) rfl (fun W hW => ⟨rfl, hW.below⟩)
  | true =>
   rw [hw] at hcb
   subst hcb
   repeat (first|refine lVa rfl rfl (by first|exact pEv rfl|fail) ?_|refine lNi ?_|refine cRg ?_|refine cSq ?_|refine xTh ?_|refine c_dec_f rfl (by first|omega|fail) ?_|refine c_ret ?_|refine c_exit ?_|refine xTe ?_|refine xBs ?_|fail)
   exact x_ret rfl rfl (by repeat constructor) rfl (fun W hW => ⟨rfl, hW.below⟩)
end R24
end Go.Proofs

/- Games on networks: sane, walked. -/
import Derived.Test.YtcodoembnjemkaaSgLe
import Derived.Test.YtcodoembnjemkaaCtA
set_option maxRecDepth 100000
set_option maxHeartbeats 400000000
set_option linter.unusedSectionVars false
set_option linter.unusedVariables false
set_option linter.unusedSimpArgs false
namespace Go.Proofs
open Go.RowKit Go.Kin Go.Kin.St Go.Kin.Ct Go.Kin.Sg
namespace R24
theorem sol_no {n T : Nat} {L C : List Lk} {good : Prop} {ad : Pos -> List Dec} {nx : Pos -> List Pos} {w w' : World} {e : Ending} (hv : ¬ good) (h : SolQ n T L C good ad nx w e w') : e = .returned (noS 0) /\ Below w.heap.size w w' := by
 obtain ⟨g1, g2⟩ := h
 rcases g2 with ⟨_, g3⟩ | ⟨g3, _⟩
 ·exact ⟨g3, g1⟩
 ·exact absurd g3 hv
theorem sol_yes {n T : Nat} {L C : List Lk} {good : Prop} {ad : Pos -> List Dec} {nx : Pos -> List Pos} {w w' : World} {e : Ending} (hv : good) (h : SolQ n T L C good ad nx w e w') :
  ∃ i : { i : SolI // i.OK ⟨n, T, L, C⟩ ad nx }, e = .returned (yesS i.1) /\ Below w.heap.size w w' /\ (i.1.m.map (·.1)).Nodup /\ ∀ p ∈ i.1.m, w.heap.size <= p.1 /\ w'.heap[p.1]? = some p.2 := by
 obtain ⟨g1, g2⟩ := h
 rcases g2 with ⟨g3, _⟩ | ⟨_, i, g4, g5, g6, g7⟩
 ·exact absurd hv g3
 ·exact ⟨⟨i, g4⟩, g5, g1, g6, g7⟩
theorem un_in {w0 W : World} {D : Nat -> Prop} {J : (Nat -> Prop) -> World -> Prop} {mem : List (Nat × Obj)} {b1 b2 : Nat} {x y : Lk} (n : Int) (hW : SatW w0 D J mem W) (m1 : (b1, Obj.cells ⟨lkE x⟩ 43 (0, 0)) ∈ mem) (m2 : (b2, Obj.cells ⟨lkE y⟩ 43 (0, 0)) ∈ mem) :
  (R23.Un.mk n (some ⟨b1, 0, none⟩) 1 [x] (some ⟨b2, 0, none⟩) 1 [y]).In W := by
 have key : ∀ {b : Nat} {z : Lk}, (b, Obj.cells ⟨lkE z⟩ 43 (0, 0)) ∈ mem -> At W (some ⟨b, 0, none⟩) 4 ([z].map lkE) := fun {b z} hm i cs hi => by
  cases i with
  | succ i => simp at hi
  | zero =>
   simp only [List.map_cons, List.map_nil, List.getElem?_cons_zero, Option.some.injEq] at hi
   subst hi
   refine ⟨b, 0, rfl, fun j v hj => ?_⟩
   rw [show 0 + 0 * 4 + j = j by omega, hW.cellAt hm]
   exact hj
 exact ⟨key m1, key m2⟩
theorem un_nil (n : Int) (W : World) : (R23.Un.mk n none 0 [] none 0 []).In W := ⟨fun i r h => by simp at h, fun i r h => by simp at h⟩
theorem str_nil (W : World) : StrIn W none [] := ⟨fun i r h => (by simp at h), fun r hr => (by cases hr), fun r hr => (by cases hr)⟩
theorem int_at {w0 W : World} {D : Nat -> Prop} {J : (Nat -> Prop) -> World -> Prop} {mem : List (Nat × Obj)} {b : Nat} {v : Int} (hW : SatW w0 D J mem W) (hm : (b, Obj.cells ⟨[.int .i64 v]⟩ 3 (0, 0)) ∈ mem) : At W (some ⟨b, 0, none⟩) 1 ([v].map inE) := fun i cs hi => by
 cases i with
 | succ i => simp at hi
 | zero =>
  simp only [List.map_cons, List.map_nil, List.getElem?_cons_zero, Option.some.injEq] at hi
  subst hi
  refine ⟨b, 0, rfl, fun j u hj => ?_⟩
  rw [show 0 + 0 * 1 + j = j by omega, hW.cellAt hm]
  exact hj
theorem list_at {w0 W : World} {D : Nat -> Prop} {J : (Nat -> Prop) -> World -> Prop} {mem : List (Nat × Obj)} {b : Nat} {l : List Int} (r : List Value) {T : TypeId} {fr : Nat × Nat} (hW : SatW w0 D J mem W) (hm : (b, Obj.cells ⟨flI l ++ r⟩ T fr) ∈ mem) : At W (some ⟨b, 0, none⟩) 1 (l.map inE) := fun i cs hi => by
 rw [List.getElem?_map] at hi
 obtain ⟨x, hx, rfl⟩ := Option.map_eq_some_iff.1 hi
 refine ⟨b, 0, rfl, fun j v hj => ?_⟩
 cases j with
 | succ j => cases hj
 | zero =>
  cases hj
  rw [show 0 + i * 1 + 0 = i by omega, hW.cellAt hm]
  exact flI_get hx _
theorem str_one {w0 W : World} {D : Nat -> Prop} {J : (Nat -> Prop) -> World -> Prop} {mem : List (Nat × Obj)} {b b1 b2 : Nat} (hW : SatW w0 D J mem W) (hm : (b, Obj.cells ⟨[.int .i64 0, .slice (some ⟨b1, 0, none⟩) 1 1, .slice (some ⟨b2, 0, none⟩) 1 1]⟩ 57 (0, 0)) ∈ mem) (h1 : (b1, Obj.cells ⟨[.int .i64 0]⟩ 3 (0, 0)) ∈ mem) (h2 : (b2, Obj.cells ⟨[.int .i64 0]⟩ 3 (0, 0)) ∈ mem) :
  StrIn W (some ⟨b, 0, none⟩) [row1 (some ⟨b1, 0, none⟩) (some ⟨b2, 0, none⟩)] := by
 refine ⟨fun i cs hi => ?_, fun r hr => ?_, fun r hr => ?_⟩
 ·cases i with
  | succ i => simp at hi
  | zero =>
   simp only [List.map_cons, List.map_nil, List.getElem?_cons_zero, Option.some.injEq] at hi
   subst hi
   refine ⟨b, 0, rfl, fun j u hj => ?_⟩
   rw [show 0 + 0 * 3 + j = j by omega, hW.cellAt hm]
   exact hj
 ·rw [List.mem_singleton.1 hr]; exact int_at hW h1
 ·rw [List.mem_singleton.1 hr]; exact int_at hW h2
theorem checkS_at {u : R23.Un} {T v : Int} {w : World} (h : chkS u.n u.L u.C T = v) (hA : u.In w) (hl : u.L.length <= 1000) (hc : u.C.length <= 1000) : Calls Try.prog 13 ⟨[.agg ⟨u.v⟩, .int .i64 T]⟩ w fun e w' => e = .returned (.int .i64 v) /\ Below w.heap.size w w' := by
 subst h; exact CheckS_calls u T w hA hl hc
theorem wins_at {u : R23.Un} {T : Int} {S : Option Addr} {cs : Nat} {rows : List DW} {w : World} {v : Value} (h : winsV u.n u.L u.C T rows = v) (hA : u.In w) (hl : u.L.length <= 1000) (hc : u.C.length <= 1000) (hS : StrIn w S rows) (hrl : rows.length <= 10000000) (hdl : ∀ r ∈ rows, r.l.length <= 1000 /\ r.d.length <= 1000) :
  Calls Try.prog 18 ⟨[.agg ⟨u.v⟩, .int .i64 T, .slice S rows.length cs]⟩ w fun e w' => e = .returned v /\ Below w.heap.size w w' := by
 subst h; exact Wins_calls u T S cs rows w hA hl hc hS hrl hdl
theorem spoils_at {u : R23.Un} {T : Int} {S : Option Addr} {cs : Nat} {rows : List DW} {w : World} {v : Value} (h : spoilsV u.n u.L u.C T rows = v) (hA : u.In w) (hl : u.L.length <= 1000) (hc : u.C.length <= 1000) (hS : StrIn w S rows) (hrl : rows.length <= 10000000) (hdl : ∀ r ∈ rows, r.l.length <= 1000 /\ r.d.length <= 1000) :
  Calls Try.prog 19 ⟨[.agg ⟨u.v⟩, .int .i64 T, .slice S rows.length cs]⟩ w fun e w' => e = .returned v /\ Below w.heap.size w w' := by
 subst h; exact Spoils_calls u T S cs rows w hA hl hc hS hrl hdl
theorem sane_calls (w : World) : Calls Try.prog 8 ⟨[]⟩ w fun e w' => e = .returned (.bool true) /\ Below w.heap.size w w' := by
 refine fEn Try.func8 rfl Try.ntmps8 rfl rfl (sWn w) ?_
 repeat (first|refine r_alloc rfl rfl rfl rfl (fun _ => ?_)|refine lVa rfl rfl (by first|exact pEv rfl|exact v_build rfl rfl (by rfl)|fail) ?_|refine lNi ?_|refine cRg ?_|refine cSq ?_|refine xTh ?_|refine rSt rfl rfl rfl rfl rfl rfl rfl (by repeat constructor) (by rfl) ?_|fail)
 rename_i b1
 refine r_callL (ι := Nat × Nat) (v := fun i => .agg ⟨[.int .i64 3, .slice (some ⟨i.1, 0, none⟩) 1 1, .slice (some ⟨i.2, 0, none⟩) 1 1]⟩) (ms := fun i => [(i.1, Obj.cells ⟨lkE (foL 1 1)⟩ 43 (0, 0)), (i.2, Obj.cells ⟨lkE foC⟩ 43 (0, 0))]) rfl rfl rfl (fun W hW => follows_calls 1 1 W) ?_
 rintro ⟨f1, f2⟩
 simp only [List.cons_append, List.nil_append]
 refine r_callL (ι := Nat × Nat) (v := fun i => .agg ⟨[.int .i64 3, .slice (some ⟨i.1, 0, none⟩) 1 1, .slice (some ⟨i.2, 0, none⟩) 1 1]⟩) (ms := fun i => [(i.1, Obj.cells ⟨lkE (foL (-1) (-1))⟩ 43 (0, 0)), (i.2, Obj.cells ⟨lkE foC⟩ 43 (0, 0))]) rfl rfl rfl (fun W hW => follows_calls (-1) (-1) W) ?_
 rintro ⟨g1, g2⟩
 simp only [List.cons_append, List.nil_append]
 repeat (first|refine r_alloc rfl rfl rfl rfl (fun _ => ?_)|refine lVa rfl rfl (by first|exact vLd rfl (by repeat constructor) rfl (by rfl)|fail) ?_|refine lNi ?_|refine cRg ?_|refine cSq ?_|refine xTh ?_|refine rSt rfl rfl rfl rfl rfl rfl rfl (by repeat constructor) (by rfl) ?_|fail)
 rename_i bw bb
 refine r_callL (ι := { i : SolI // i.OK ⟨3, 3, foN 1, [foC]⟩ (adD ⟨3, 3, foN 1, [foC]⟩) (nxD ⟨3, 3, foN 1, [foC]⟩) }) (v := fun i => yesS i.1) (ms := fun i => i.1.m) rfl rfl rfl (fun W hW => (Solve_calls 3 3 (some ⟨f1, 0, none⟩) (some ⟨f2, 0, none⟩) 1 1 (foN 1) [foC] W (un_in 3 hW (by repeat constructor) (by repeat constructor)) (by decide) (by decide) chk_f3 (by decide)).mono fun e w' h => sol_yes vt_f3 h) ?_
 rintro ⟨i1, hi1⟩
 simp only
 refine l_perm List.perm_append_comm ?_
 simp only [List.cons_append, List.nil_append]
 repeat (first|refine lVa rfl rfl (by first|exact pEv rfl|exact vLd rfl (by repeat constructor) rfl (by rfl)|fail) ?_|refine lNi ?_|refine cRg ?_|refine cSq ?_|refine xTh ?_|fail)
 refine r_call (v := noS 0) rfl rfl rfl (fun W hW => (Solve_calls 3 2 (some ⟨f1, 0, none⟩) (some ⟨f2, 0, none⟩) 1 1 (foN 1) [foC] W (un_in 3 hW (by repeat constructor) (by repeat constructor)) (by decide) (by decide) chk_f2 (by decide)).mono fun e w' h => sol_no vt_f2 h) ?_
 repeat (first|refine lVa rfl rfl (by first|exact pEv rfl|exact vLd rfl (by repeat constructor) rfl (by rfl)|fail) ?_|refine lNi ?_|refine cRg ?_|refine cSq ?_|refine xTh ?_|fail)
 refine r_call (v := noS 0) rfl rfl rfl (fun W hW => (Solve_calls 3 9 (some ⟨g1, 0, none⟩) (some ⟨g2, 0, none⟩) 1 1 (foN (-1)) [foC] W (un_in 3 hW (by repeat constructor) (by repeat constructor)) (by decide) (by decide) chk_g9 (by decide)).mono fun e w' h => sol_no vt_g9 h) ?_
 repeat (first|refine lVa rfl rfl (by first|exact pEv rfl|exact vLd rfl (by repeat constructor) rfl (by rfl)|fail) ?_|refine lNi ?_|refine cRg ?_|refine cSq ?_|refine xTh ?_|fail)
 refine r_callL (ι := { i : SolI // i.OK ⟨3, 9, foN (-1), [foC]⟩ (adO ⟨3, 9, foN (-1), [foC]⟩) (nxO ⟨3, 9, foN (-1), [foC]⟩) }) (v := fun i => yesS i.1) (ms := fun i => i.1.m) rfl rfl rfl (fun W hW => (Spoil_calls 3 9 (some ⟨g1, 0, none⟩) (some ⟨g2, 0, none⟩) 1 1 (foN (-1)) [foC] W (un_in 3 hW (by repeat constructor) (by repeat constructor)) (by decide) (by decide) chk_g9 (by decide)).mono fun e w' h => sol_yes vt_g9 h) ?_
 rintro ⟨i2, hi2⟩
 simp only
 refine l_perm List.perm_append_comm ?_
 simp only [List.cons_append, List.nil_append]
 repeat (first|refine lVa rfl rfl (by first|exact pEv rfl|exact vLd rfl (by repeat constructor) rfl (by rfl)|fail) ?_|refine lNi ?_|refine cRg ?_|refine cSq ?_|refine xTh ?_|fail)
 refine r_call (v := noS 0) rfl rfl rfl (fun W hW => (Spoil_calls 1 1 none none 0 0 [] [] W (un_nil 1 W) (by decide) (by decide) chk_o1 (by decide)).mono fun e w' h => sol_no (fun h => h vt_o1) h) ?_
 repeat (first|refine lVa rfl rfl (by first|exact pEv rfl|exact vLd rfl (by repeat constructor) rfl (by rfl)|fail) ?_|refine lNi ?_|refine cRg ?_|refine cSq ?_|refine xTh ?_|fail)
 refine r_callL (ι := { i : SolI // i.OK ⟨1, 1, [], []⟩ (adD ⟨1, 1, [], []⟩) (nxD ⟨1, 1, [], []⟩) }) (v := fun i => yesS i.1) (ms := fun i => i.1.m) rfl rfl rfl (fun W hW => (Solve_calls 1 1 none none 0 0 [] [] W (un_nil 1 W) (by decide) (by decide) chk_o1 (by decide)).mono fun e w' h => sol_yes vt_o1 h) ?_
 rintro ⟨i3, hi3⟩
 simp only
 refine l_perm List.perm_append_comm ?_
 simp only [List.cons_append, List.nil_append]
 repeat (first|refine lVa rfl rfl (by first|exact pEv rfl|exact vLd rfl (by repeat constructor) rfl (by rfl)|fail) ?_|refine lNi ?_|refine cRg ?_|refine cSq ?_|refine xTh ?_|fail)
 obtain ⟨q1, q2⟩ := sol_read (n := 3) (T := 3) chk_f3 (by decide) vt_f3 hi1
 obtain ⟨ql, qr⟩ := rdC_small q1
 refine r_call (v := .tuple ⟨[.bool true, .int .i64 0]⟩) rfl rfl rfl (fun W hW => ?_) ?_
 ·obtain ⟨A1, c', hA1, hS1⟩ := strIn_own hi1 (fun p hp => (hW.own p (by repeat (first|exact hp|exact List.mem_append_right _ hp|exact List.mem_append_left _ hp|exact List.mem_append_left _ (List.mem_append_left _ hp)|exact List.mem_append_left _ (List.mem_append_right _ hp)|apply List.Mem.tail))).2)
  have := wins_at (u := ⟨3, some ⟨f1, 0, none⟩, 1, foN 1, some ⟨f2, 0, none⟩, 1, [foC]⟩) (cs := c') ((winsV_yes (n := 3) (T := 3) q1).trans (by rw [q2])) (un_in 3 hW (by repeat constructor) (by repeat constructor)) (show (1 : Nat) <= 1000 by decide) (show (1 : Nat) <= 1000 by decide) hS1 ql qr
  rw [<- hA1] at this
  exact this
 repeat (first|refine lVa rfl rfl (by first|exact pEv rfl|exact vLd rfl (by repeat constructor) rfl (by rfl)|fail) ?_|refine lNi ?_|refine cRg ?_|refine cSq ?_|refine xTh ?_|fail)
 obtain ⟨s1, s2⟩ := spo_read (n := 3) (T := 9) chk_g9 (by decide) vt_g9 hi2
 obtain ⟨sl, sr⟩ := rdC_small s1
 refine r_call (v := .tuple ⟨[.bool true, .int .i64 0]⟩) rfl rfl rfl (fun W hW => ?_) ?_
 ·obtain ⟨A1, c', hA1, hS1⟩ := strIn_own hi2 (fun p hp => (hW.own p (by repeat (first|exact hp|exact List.mem_append_right _ hp|exact List.mem_append_left _ hp|exact List.mem_append_left _ (List.mem_append_left _ hp)|exact List.mem_append_left _ (List.mem_append_right _ hp)|apply List.Mem.tail))).2)
  have := spoils_at (u := ⟨3, some ⟨g1, 0, none⟩, 1, foN (-1), some ⟨g2, 0, none⟩, 1, [foC]⟩) (cs := c') ((spoilsV_yes (n := 3) (T := 9) s1).trans (by rw [s2])) (un_in 3 hW (by repeat constructor) (by repeat constructor)) (show (1 : Nat) <= 1000 by decide) (show (1 : Nat) <= 1000 by decide) hS1 sl sr
  rw [<- hA1] at this
  exact this
 repeat (first|refine lVa rfl rfl (by first|exact pEv rfl|exact vLd rfl (by repeat constructor) rfl (by rfl)|fail) ?_|refine lNi ?_|refine cRg ?_|refine cSq ?_|refine xTh ?_|fail)
 refine r_call (v := .tuple ⟨[.bool false, .int .i64 0]⟩) rfl rfl rfl (fun W hW => ?_) ?_
 ·exact wins_at (u := ⟨1, none, 0, [], none, 0, []⟩) (rows := []) ((winsV_yes (n := 1) (T := 1) (rd_nil chk_o1)).trans (by rw [wn_o])) (un_nil 1 W) (by decide) (by decide) (str_nil W) (by decide) (fun r hr => by cases hr)
 repeat (first|refine lVa rfl rfl (by first|exact pEv rfl|exact vLd rfl (by repeat constructor) rfl (by rfl)|exact v_build rfl rfl (by rfl)|fail) ?_|refine lNi ?_|refine cRg ?_|refine cSq ?_|refine xTh ?_|refine r_buildSlice rfl rfl rfl rfl rfl rfl (by rfl) (fun _ => ?_)|fail)
 rename_i d1 d2 d3
 refine r_call (v := .tuple ⟨[.bool true, .int .i64 0]⟩) rfl rfl rfl (fun W hW => ?_) ?_
 ·exact wins_at (u := ⟨1, none, 0, [], none, 0, []⟩) (T := 1) (S := some ⟨d3, 0, none⟩) (cs := 1) (rows := [row1 (some ⟨d1, 0, none⟩) (some ⟨d2, 0, none⟩)]) ((winsV_yes (n := 1) (T := 1) (rd_1 (some ⟨d1, 0, none⟩) (some ⟨d2, 0, none⟩))).trans (by rw [wn_1])) (un_nil 1 W) (by decide) (by decide) (str_one hW (b := d3) (b1 := d1) (b2 := d2) (by repeat constructor) (by repeat constructor) (by repeat constructor)) (by simp) (fun r hr => by rw [List.mem_singleton.1 hr]; exact ⟨by simp [row1], by simp [row1]⟩)
 repeat (first|refine lVa rfl rfl (by first|exact pEv rfl|exact vLd rfl (by repeat constructor) rfl (by rfl)|fail) ?_|refine lNi ?_|refine cRg ?_|refine cSq ?_|refine xTh ?_|refine r_buildSlice rfl rfl rfl rfl rfl rfl (by rfl) (fun _ => ?_)|fail)
 rename_i d4
 refine r_call1 (ι := PlI) (v := fun i => .tuple ⟨[.slice (some ⟨i.b, 0, none⟩) 3 i.c, .int .i64 0]⟩) (bk := fun i => i.b) (o := fun i => .cells ⟨flI [0, 0, 0] ++ i.r⟩ 3 (0, 0)) rfl rfl rfl (fun W hW => (Play_calls ⟨3, some ⟨f1, 0, none⟩, 1, foN 1, some ⟨f2, 0, none⟩, 1, [foC]⟩ 3 none 0 [] (some ⟨d4, 0, none⟩) 1 [2] W (un_in 3 hW (by repeat constructor) (by repeat constructor)) (show (1 : Nat) <= 1000 by decide) (show (1 : Nat) <= 1000 by decide) (str_nil W) (by decide) (fun r hr => by cases hr) (int_at hW (b := d4) (by repeat constructor))).mono ?_) (fun i => ?_)
 ·rintro e w' ⟨h1, h2⟩
  rcases h2 with ⟨h3, _⟩ | ⟨_, i, h3, h4, h5⟩
  ·exact absurd plc_f3 h3
  ·rw [show plA ⟨((3 : Int)).toNat, ((3 : Int)).toNat, foN 1, [foC]⟩ [2] (tabW []) = [0, 0, 0] from pl_f3] at h3 h5
   exact ⟨i, h3, h1, h4, h5⟩
 repeat (first|refine lVa rfl rfl (by first|exact pEv rfl|exact vLd rfl (by repeat constructor) rfl (by rfl)|fail) ?_|refine lNi ?_|refine cRg ?_|refine cSq ?_|refine xTh ?_|refine c_false rfl ?_|refine cSk ?_|fail)
 refine r_call (v := .int .i64 1) rfl rfl rfl (fun W hW => checkS_at (u := ⟨1, none, 0, [], none, 0, []⟩) chk_o0 (un_nil 1 W) (by decide) (by decide)) ?_
 repeat (first|refine lVa rfl rfl (by first|exact pEv rfl|exact v_build rfl rfl (by rfl)|fail) ?_|refine l_dec_f rfl rfl rfl rfl rfl (by first|omega|exact fun h => h rfl|fail) ?_|fail)
 refine r_call (v := .int .i64 2) rfl rfl rfl (fun W hW => checkS_at (u := ⟨5, none, 0, [], none, 0, []⟩) chk_55 (un_nil 5 W) (by decide) (by decide)) ?_
 repeat (first|refine lVa rfl rfl (by first|exact pEv rfl|exact vLd rfl (by repeat constructor) rfl (by rfl)|fail) ?_|refine l_dec_f rfl rfl rfl rfl rfl (by first|omega|exact fun h => h rfl|fail) ?_|fail)
 refine r_call (v := .int .i64 0) rfl rfl rfl (fun W hW => checkS_at (u := ⟨3, some ⟨f1, 0, none⟩, 1, foN 1, some ⟨f2, 0, none⟩, 1, [foC]⟩) chk_f15 (un_in 3 hW (by repeat constructor) (by repeat constructor)) (show (1 : Nat) <= 1000 by decide) (show (1 : Nat) <= 1000 by decide)) ?_
 repeat (first|refine lVa rfl rfl (by first|exact pEv rfl|fail) ?_|refine lNi ?_|refine cRg ?_|refine cSq ?_|refine xTh ?_|refine r_buildSlice rfl rfl rfl rfl rfl rfl (by rfl) (fun _ => ?_)|refine c_false rfl ?_|refine cSk ?_|fail)
 rename_i d5
 refine r_call (v := .bool true) rfl rfl rfl (fun W hW => same15_calls (some ⟨i.b, 0, none⟩) (some ⟨d5, 0, none⟩) i.c 3 [0, 0, 0] [0, 0, 0] W (list_at i.r hW (b := i.b) (T := 3) (fr := (0, 0)) (by repeat constructor)) (list_at [] hW (b := d5) (T := 3) (fr := (0, 0)) (by repeat constructor)) (by decide)) ?_
 repeat (first|refine lVa rfl rfl (by first|exact pEv rfl|fail) ?_|refine lNi ?_|refine xTh ?_|refine c_ret ?_|fail)
 exact x_ret rfl rfl (by repeat constructor) rfl (fun W hW => ⟨rfl, hW.below⟩)
end R24
end Go.Proofs

namespace Go.Kin.Ct
open Go.Kin.St
theorem weight_app (l m : List Ed) : weight (l ++ m) = weight l + weight m := by
 induction l with
 | nil => show weight m = 0 + _; omega
 | cons e l ih => simp only [List.cons_append, weight, ih]; omega
theorem weight_range (g : Nat -> Ed) (P : Nat) : weight ((List.range P).map g) = sum P (fun k => (g k).w) := by
 induction P with
 | zero => rfl
 | succ P ih =>
  rw [List.range_succ, List.map_append, weight_app, ih]
  simp only [List.map_cons, List.map_nil, weight, sum]
  omega
theorem flip_get {E : List Ed} {k : Nat} {e : Ed} (h : (E.map St.flip)[k]? = some e) : E[k]? = some (St.flip e) := by
 rw [List.getElem?_map] at h
 cases hk : E[k]? with
 | none => rw [hk] at h; cases h
 | some g => rw [hk] at h; simp only [Option.map_some, Option.some.injEq] at h; rw [<- h]; rfl
theorem fwd_good {E : List Ed} {S : Sr} {now c : Nat} (h : Inv (E.map St.flip) S now) (hT : ∀ k, 0 < S.T (iter S.fr k c)) : ∀ (m j : Nat),
  follows (iter S.fr j c) ((List.range' j m).map fun k => edgeAt E (S.by_ (iter S.fr k c))) /\ endOf (iter S.fr j c) ((List.range' j m).map fun k => edgeAt E (S.by_ (iter S.fr k c))) = iter S.fr (j + m) c /\
   ∀ e ∈ (List.range' j m).map fun k => edgeAt E (S.by_ (iter S.fr k c)), e ∈ E
 | 0, j => ⟨trivial, rfl, fun e he => by cases he⟩
 | m + 1, j => by
  obtain ⟨g1, g2, g3⟩ := fwd_good h hT m (j + 1)
  obtain ⟨e, he, hb, hf, -⟩ := (h.pt _).has (hT j)
  have he2 := flip_get he
  have hed : edgeAt E (S.by_ (iter S.fr j c)) = St.flip e := by unfold edgeAt; rw [he2]; rfl
  have hnx : iter S.fr (j + 1) c = (St.flip e).b := hf
  rw [List.range'_succ, List.map_cons, hed]
  refine ⟨⟨hb, by rw [<- hnx]; exact g1⟩, ?_, fun g hg => ?_⟩
  ·show endOf (St.flip e).b _ = _
   rw [<- hnx, g2]; congr 1; omega
  ·rcases List.mem_cons.1 hg with rfl | hg
   ·exact List.mem_of_getElem? he2
   ·exact g3 g hg
theorem wt_flip {E : List Ed} {S : Sr} {x : Nat} : wt (E.map St.flip) S x = (edgeAt E (S.by_ x)).w := by
 unfold wt edgeAt
 rw [List.getElem?_map]
 cases E[S.by_ x]? with
 | none => rfl
 | some e => rfl
/-- the uses on the cycle, as they are met -/
def cyc (S : Sr) (c P : Nat) : List Us := (List.range P).map fun j => useOf (S.by_ (iter S.fr j c))
theorem cyc_len (S : Sr) (c P : Nat) : (cyc S c P).length = P := by unfold cyc; simp
theorem sol_cycle {l : List Lk} {n : Nat} (hE : In n (edges l)) (hl : Loopless (edges l)) {m x P : Nat} (hx : n * (edges l).length < (srSt ((edges l).map St.flip) m).T x) (h0 : 0 < (edges l).length) (hP : 0 < P)
  (hc : iter (srSt ((edges l).map St.flip) m).fr P (iter (srSt ((edges l).map St.flip) m).fr n x) = iter (srSt ((edges l).map St.flip) m).fr n x) :
  accepts l (cyc (srSt ((edges l).map St.flip) m) (iter (srSt ((edges l).map St.flip) m).fr n x) P) = true := by
 have hlf : ((edges l).map St.flip).length = (edges l).length := List.length_map ..
 have hll : Loopless ((edges l).map St.flip) := fun e he hab => by
  obtain ⟨g, hg, rfl⟩ := List.mem_map.1 he
  exact hl g hg hab.symm
 have hI := sr_inv hll (by rw [hlf]; exact h0) m
 have hT := (on_cycle hI (in_flip hE) (by rw [hlf]; exact hx)).2
 generalize srSt ((edges l).map St.flip) m = S at *
 generalize iter S.fr n x = c at *
 obtain ⟨g1, g2, g3⟩ := fwd_good hI hT P 0
 have hn := cycle_negative hI hP hc hT
 rw [<- List.range_eq_range'] at g1 g2 g3
 refine accepts_of (E := (List.range P).map fun k => edgeAt (edges l) (S.by_ (iter S.fr k c))) (p := c) ?_ ?_ g1 (by rw [Nat.zero_add, hc] at g2; exact g2) ?_
 ·unfold cyc
  rw [List.map_map, List.map_map]
  apply List.map_congr_left
  intro j _
  obtain ⟨e, he, _⟩ := (hI.pt _).has (hT j)
  simp only [Function.comp_apply, stepOf_useOf, flip_get he, edgeAt, Option.getD_some]
 ·intro h
  have := congrArg List.length h
  rw [cyc_len] at this
  simp at this; omega
 ·rw [weight_range]
  rw [sum_congr fun k _ => (wt_flip (E := edges l) (S := S) (x := iter S.fr k c)).symm]
  exact hn
theorem sol_loop {l : List Lk} {k : Nat} {e : Ed} (he : (edges l)[k]? = some e) (h1 : e.a = e.b) (h2 : e.w < 0) : accepts l [useOf k] = true :=
 accepts_of (E := [e]) (p := e.a) (by simp only [List.map_cons, List.map_nil, stepOf_useOf, he]) (by simp) ⟨rfl, trivial⟩ (by show e.b = e.a; exact h1.symm) (by simp only [weight]; omega)
/-! ## The rounds -/
theorem sr_lows (F : List Ed) (r : Nat) : ∀ k, k <= F.length -> (srSt F (r * F.length + k)).d = lows (F.take k) (srSt F (r * F.length)).d
 | 0, _ => rfl
 | k + 1, hk => by
  have hx := List.getElem?_eq_getElem (show k < F.length by omega)
  rw [<- Nat.add_assoc, sr_next hx, step_low, sr_lows F r k (by omega), List.take_add_one, hx]
  unfold lows
  rw [List.foldl_append]
  rfl
theorem sr_pass (E : List Ed) : ∀ r, (srSt (E.map St.flip) (r * E.length)).d = neg (passes E r fun _ => 0)
 | 0 => by rw [Nat.zero_mul]; funext x; show (0 : Int) = -(0 : Int); omega
 | r + 1 => by
  have hlf : (E.map St.flip).length = E.length := List.length_map ..
  have h := sr_lows (E.map St.flip) r (E.map St.flip).length (Nat.le_refl _)
  rw [List.take_length, hlf, sr_pass E r, <- lowers_pass] at h
  rw [Nat.succ_mul, h]
  rfl
/-- the times that the search has reached -/
def tm (E : List Ed) (m : Nat) : Nat -> Int := neg (srSt (E.map St.flip) m).d
theorem tm_pass (E : List Ed) (r : Nat) : tm E (r * E.length) = passes E r fun _ => 0 := by unfold tm; rw [sr_pass, neg_neg']
theorem tm_within {E : List Ed} {W : Int} (hW : 0 <= W) (hw : ∀ e ∈ E, -W <= e.w /\ e.w <= W) (m : Nat) : Within (W * m) (tm E m) := fun x => by
 have h := sr_within (E := E.map St.flip) hW (fun e he => by obtain ⟨g, hg, rfl⟩ := List.mem_map.1 he; exact hw g hg) m x
 unfold tm neg
 omega
/-- a step that is broken -/
theorem sr_up {E : List Ed} {r k : Nat} {e : Ed} (hk : E[k]? = some e) (hb : tm E (r * E.length + k) e.a < tm E (r * E.length + k) e.b - e.w) :
  tm E (r * E.length + (k + 1)) = upd (tm E (r * E.length + k)) e.a (tm E (r * E.length + k) e.b - e.w) /\ (srSt (E.map St.flip) (r * E.length + (k + 1))).fr = upd (srSt (E.map St.flip) (r * E.length + k)).fr e.a e.b /\
   (srSt (E.map St.flip) (r * E.length + (k + 1))).by_ = upd (srSt (E.map St.flip) (r * E.length + k)).by_ e.a k /\ (srSt (E.map St.flip) (r * E.length + (k + 1))).T = upd (srSt (E.map St.flip) (r * E.length + k)).T e.a (r * E.length + k + 1) := by
 have hlf : (E.map St.flip).length = E.length := List.length_map ..
 have hx : (E.map St.flip)[k]? = some (St.flip e) := by rw [List.getElem?_map, hk]; rfl
 have h := sr_next (r := r) hx
 rw [hlf] at h
 unfold tm at hb ⊢
 generalize srSt (E.map St.flip) (r * E.length + k) = S at *
 rw [<- Nat.add_assoc, h]
 unfold neg at hb ⊢
 have hif : S.d (St.flip e).a + (St.flip e).w < S.d (St.flip e).b := by
  show S.d e.b + e.w < S.d e.a
  omega
 unfold Sr.step
 rw [if_pos hif]
 refine ⟨?_, rfl, rfl, rfl⟩
 funext x
 show - (upd S.d e.a (S.d e.b + e.w) x) = upd (fun x => - S.d x) e.a (- S.d e.b - e.w) x
 unfold upd
 by_cases h : x = e.a
 ·rw [if_pos h, if_pos h]; omega
 ·rw [if_neg h, if_neg h]
theorem sr_same {E : List Ed} {r k : Nat} {e : Ed} (hk : E[k]? = some e) (hb : ¬ tm E (r * E.length + k) e.a < tm E (r * E.length + k) e.b - e.w) : srSt (E.map St.flip) (r * E.length + (k + 1)) = srSt (E.map St.flip) (r * E.length + k) := by
 have hlf : (E.map St.flip).length = E.length := List.length_map ..
 have hx : (E.map St.flip)[k]? = some (St.flip e) := by rw [List.getElem?_map, hk]; rfl
 have h := sr_next (r := r) hx
 rw [hlf] at h
 rw [<- Nat.add_assoc, h]
 unfold tm neg at hb
 unfold Sr.step
 rw [if_neg]
 show ¬ _ + e.w < _
 intro h2
 refine hb ?_
 change _ < _ at h2
 simp only [St.flip] at h2
 omega
/-! ## The greatest of the least times -/
theorem gap_free (n : Nat) (t : Nat -> Int) (W : Int) (hW : 0 < W) : ∀ m : Nat, (∃ x, x < n /\ W * m < t x) -> n <= m -> ∃ j : Nat, j < m /\ ∀ x, x < n -> ¬ (W * j < t x /\ t x <= W * (j + 1)) := by
 intro m ⟨x, hx, ht⟩ hm
 apply Classical.byContradiction
 intro hno
 have hall : ∀ j : Nat, j < m -> ∃ y, y < n /\ W * j < t y /\ t y <= W * (j + 1) := fun j hj => by
  apply Classical.byContradiction
  intro h
  exact hno ⟨j, hj, fun y hy h2 => h ⟨y, hy, h2.1, h2.2⟩⟩
 let f : Nat -> Nat := fun j => if h : j < m then Classical.choose (hall j h) else x
 have hf : ∀ j (h : j < m), f j < n /\ W * j < t (f j) /\ t (f j) <= W * (j + 1) := fun j h => by
  have := Classical.choose_spec (hall j h)
  simp only [f, dif_pos h]
  exact this
 obtain ⟨i, j, hij, hj, he⟩ := pigeon n f fun i hi => by
  by_cases h : i < m
  ·exact (hf i h).1
  ·simp only [f, dif_neg h]; exact hx
 have hi := hf i (by omega)
 have hmono : W * ((i : Int) + 1) <= W * j := Int.mul_le_mul_of_nonneg_left (by omega) (by omega)
 by_cases h : j < m
 ·have hj2 := hf j h
  rw [<- he] at hj2
  omega
 ·have hjm : j = m := by omega
  have : f j = x := by simp only [f, dif_neg h]
  rw [<- he] at this
  rw [this] at hi
  have hmono2 : W * ((i : Int) + 1) <= W * m := Int.mul_le_mul_of_nonneg_left (by omega) (by omega)
  omega
theorem least_le {n : Nat} {E : List Ed} {t : Nat -> Int} {W : Int} (hW : 0 < W) (hw : ∀ e ∈ E, -W <= e.w) (hE : In n E) (h : Least n E (fun _ => 0) t) : ∀ x, x < n -> t x <= W * n := by
 intro x hx
 apply Classical.byContradiction
 intro hno
 obtain ⟨j, hj, hg⟩ := gap_free n t W hW n ⟨x, hx, by omega⟩ (Nat.le_refl _)
 have hj0 : 0 <= W * (j : Int) := Int.mul_nonneg (by omega) (by omega)
 have hj1 : W * ((j : Int) + 1) = W * j + W := by rw [Int.mul_add, Int.mul_one]
 have hs : Sol E fun y => if W * (j + 1) < t y then t y - 1 else t y := fun e he => by
  have h1 := h.sol e he
  have h2 := hw e he
  obtain ⟨h3, h4⟩ := hE e he
  have g1 := hg e.a h3
  have g2 := hg e.b h4
  simp only
  split <;> split <;> omega
 have hle := h.le _ hs (fun y hy => by have := h.pos y hy; split <;> omega) x hx
 have hjn : W * ((j : Int) + 1) <= W * n := Int.mul_le_mul_of_nonneg_left (by omega) (by omega)
 rw [if_pos (by omega)] at hle
 omega
end Go.Kin.Ct

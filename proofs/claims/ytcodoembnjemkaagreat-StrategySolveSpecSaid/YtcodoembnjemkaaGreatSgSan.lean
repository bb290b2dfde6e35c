/- Games on networks: sane, walked. -/
import Derived.Test.YtcodoembnjemkaaGreatSgLe
set_option maxRecDepth 100000
set_option maxHeartbeats 400000000
set_option linter.unusedSectionVars false
set_option linter.unusedVariables false
set_option linter.unusedSimpArgs false
namespace Go.Proofs
open Go.RowKit Go.Kin Go.Kin.St Go.Kin.Ct Go.Kin.Sg
namespace R24
theorem sol_no {n T : Nat} {L C : List Lk} {good : Prop} {ad : Pos -> List Dec} {nx : Pos -> List Pos} {w w' : World} {e : Ending} (hv : ¬ good) (h : SolQ n T L C good ad nx w e w') : e = .returned (noS 0) /\ Below w.heap.size w w' := by
 obtain ⟨g1, g2⟩ := h
 rcases g2 with ⟨_, g3⟩ | ⟨g3, _⟩
 ·exact ⟨g3, g1⟩
 ·exact absurd g3 hv
theorem sol_yes {n T : Nat} {L C : List Lk} {good : Prop} {ad : Pos -> List Dec} {nx : Pos -> List Pos} {w w' : World} {e : Ending} (hv : good) (h : SolQ n T L C good ad nx w e w') :
  ∃ i : { i : SolI // i.OK ⟨n, T, L, C⟩ ad nx }, e = .returned (yesS i.1) /\ Below w.heap.size w w' /\ (i.1.m.map (·.1)).Nodup /\ ∀ p ∈ i.1.m, w.heap.size <= p.1 /\ w'.heap[p.1]? = some p.2 := by
 obtain ⟨g1, g2⟩ := h
 rcases g2 with ⟨g3, _⟩ | ⟨_, i, g4, g5, g6, g7⟩
 ·exact absurd hv g3
 ·exact ⟨⟨i, g4⟩, g5, g1, g6, g7⟩
theorem un_in {w0 W : World} {D : Nat -> Prop} {J : (Nat -> Prop) -> World -> Prop} {mem : List (Nat × Obj)} {b1 b2 : Nat} {x y : Lk} (n : Int) (hW : SatW w0 D J mem W) (m1 : (b1, Obj.cells ⟨lkE x⟩ 76 (0, 0)) ∈ mem) (m2 : (b2, Obj.cells ⟨lkE y⟩ 76 (0, 0)) ∈ mem) :
  (R23.Un.mk n (some ⟨b1, 0, none⟩) 1 [x] (some ⟨b2, 0, none⟩) 1 [y]).In W := by
 have key : ∀ {b : Nat} {z : Lk}, (b, Obj.cells ⟨lkE z⟩ 76 (0, 0)) ∈ mem -> At W (some ⟨b, 0, none⟩) 4 ([z].map lkE) := fun {b z} hm i cs hi => by
  cases i with
  | succ i => simp at hi
  | zero =>
   simp only [List.map_cons, List.map_nil, List.getElem?_cons_zero, Option.some.injEq] at hi
   subst hi
   refine ⟨b, 0, rfl, fun j v hj => ?_⟩
   rw [show 0 + 0 * 4 + j = j by omega, hW.cellAt hm]
   exact hj
 exact ⟨key m1, key m2⟩
theorem un_nil (n : Int) (W : World) : (R23.Un.mk n none 0 [] none 0 []).In W := ⟨fun i r h => by simp at h, fun i r h => by simp at h⟩
theorem str_nil (W : World) : StrIn W none [] := ⟨fun i r h => (by simp at h), fun r hr => (by cases hr), fun r hr => (by cases hr)⟩
theorem int_at {w0 W : World} {D : Nat -> Prop} {J : (Nat -> Prop) -> World -> Prop} {mem : List (Nat × Obj)} {b : Nat} {v : Int} (hW : SatW w0 D J mem W) (hm : (b, Obj.cells ⟨[.int .i64 v]⟩ 3 (0, 0)) ∈ mem) : At W (some ⟨b, 0, none⟩) 1 ([v].map inE) := fun i cs hi => by
 cases i with
 | succ i => simp at hi
 | zero =>
  simp only [List.map_cons, List.map_nil, List.getElem?_cons_zero, Option.some.injEq] at hi
  subst hi
  refine ⟨b, 0, rfl, fun j u hj => ?_⟩
  rw [show 0 + 0 * 1 + j = j by omega, hW.cellAt hm]
  exact hj
theorem list_at {w0 W : World} {D : Nat -> Prop} {J : (Nat -> Prop) -> World -> Prop} {mem : List (Nat × Obj)} {b : Nat} {l : List Int} (r : List Value) {T : TypeId} {fr : Nat × Nat} (hW : SatW w0 D J mem W) (hm : (b, Obj.cells ⟨flI l ++ r⟩ T fr) ∈ mem) : At W (some ⟨b, 0, none⟩) 1 (l.map inE) := fun i cs hi => by
 rw [List.getElem?_map] at hi
 obtain ⟨x, hx, rfl⟩ := Option.map_eq_some_iff.1 hi
 refine ⟨b, 0, rfl, fun j v hj => ?_⟩
 cases j with
 | succ j => cases hj
 | zero =>
  cases hj
  rw [show 0 + i * 1 + 0 = i by omega, hW.cellAt hm]
  exact flI_get hx _
theorem str_one {w0 W : World} {D : Nat -> Prop} {J : (Nat -> Prop) -> World -> Prop} {mem : List (Nat × Obj)} {b b1 b2 : Nat} (hW : SatW w0 D J mem W) (hm : (b, Obj.cells ⟨[.int .i64 0, .slice (some ⟨b1, 0, none⟩) 1 1, .slice (some ⟨b2, 0, none⟩) 1 1]⟩ 39 (0, 0)) ∈ mem) (h1 : (b1, Obj.cells ⟨[.int .i64 0]⟩ 3 (0, 0)) ∈ mem) (h2 : (b2, Obj.cells ⟨[.int .i64 0]⟩ 3 (0, 0)) ∈ mem) :
  StrIn W (some ⟨b, 0, none⟩) [row1 (some ⟨b1, 0, none⟩) (some ⟨b2, 0, none⟩)] := by
 refine ⟨fun i cs hi => ?_, fun r hr => ?_, fun r hr => ?_⟩
 ·cases i with
  | succ i => simp at hi
  | zero =>
   simp only [List.map_cons, List.map_nil, List.getElem?_cons_zero, Option.some.injEq] at hi
   subst hi
   refine ⟨b, 0, rfl, fun j u hj => ?_⟩
   rw [show 0 + 0 * 3 + j = j by omega, hW.cellAt hm]
   exact hj
 ·rw [List.mem_singleton.1 hr]; exact int_at hW h1
 ·rw [List.mem_singleton.1 hr]; exact int_at hW h2
theorem checkS_at {u : R23.Un} {T v : Int} {w : World} (h : chkS u.n u.L u.C T = v) (hA : u.In w) (hl : u.L.length <= 1000) (hc : u.C.length <= 1000) : Calls Tryz.prog 17 ⟨[.agg ⟨u.v⟩, .int .i64 T]⟩ w fun e w' => e = .returned (.int .i64 v) /\ Below w.heap.size w w' := by
 subst h; exact CheckS_calls u T w hA hl hc
theorem wins_at {u : R23.Un} {T : Int} {S : Option Addr} {cs : Nat} {rows : List DW} {w : World} {v : Value} (h : winsV u.n u.L u.C T rows = v) (hA : u.In w) (hl : u.L.length <= 1000) (hc : u.C.length <= 1000) (hS : StrIn w S rows) (hrl : rows.length <= 10000000) (hdl : ∀ r ∈ rows, r.l.length <= 1000 /\ r.d.length <= 1000) :
  Calls Tryz.prog 8 ⟨[.agg ⟨u.v⟩, .int .i64 T, .slice S rows.length cs]⟩ w fun e w' => e = .returned v /\ Below w.heap.size w w' := by
 subst h; exact Wins_calls u T S cs rows w hA hl hc hS hrl hdl
theorem spoils_at {u : R23.Un} {T : Int} {S : Option Addr} {cs : Nat} {rows : List DW} {w : World} {v : Value} (h : spoilsV u.n u.L u.C T rows = v) (hA : u.In w) (hl : u.L.length <= 1000) (hc : u.C.length <= 1000) (hS : StrIn w S rows) (hrl : rows.length <= 10000000) (hdl : ∀ r ∈ rows, r.l.length <= 1000 /\ r.d.length <= 1000) :
  Calls Tryz.prog 10 ⟨[.agg ⟨u.v⟩, .int .i64 T, .slice S rows.length cs]⟩ w fun e w' => e = .returned v /\ Below w.heap.size w w' := by
 subst h; exact Spoils_calls u T S cs rows w hA hl hc hS hrl hdl
theorem sane_calls (w : World) : Calls Tryz.prog 5 ⟨[]⟩ w fun e w' => e = .returned (.bool true) /\ Below w.heap.size w w' := by
 refine fEn Tryz.func5 rfl Tryz.ntmps5 rfl rfl (sWn w) ?_
 repeat (first|refine r_alloc rfl rfl rfl rfl (fun _ => ?_)|refine lVa rfl rfl (by first|exact pEv rfl|exact v_build rfl rfl (by rfl)|fail) ?_|refine lNi ?_|refine cRg ?_|refine cSq ?_|refine xTh ?_|refine rSt rfl rfl rfl rfl rfl rfl rfl (by repeat constructor) (by rfl) ?_|fail)
 rename_i b1
 refine r_callL (ι := Nat × Nat) (v := fun i => .agg ⟨[.int .i64 3, .slice (some ⟨i.1, 0, none⟩) 1 1, .slice (some ⟨i.2, 0, none⟩) 1 1]⟩) (ms := fun i => [(i.1, Obj.cells ⟨lkE (foL 1 1)⟩ 76 (0, 0)), (i.2, Obj.cells ⟨lkE foC⟩ 76 (0, 0))]) rfl rfl rfl (fun W hW => follows_calls 1 1 W) ?_
 rintro ⟨f1, f2⟩
 simp only [List.cons_append, List.nil_append]
 refine r_callL (ι := Nat × Nat) (v := fun i => .agg ⟨[.int .i64 3, .slice (some ⟨i.1, 0, none⟩) 1 1, .slice (some ⟨i.2, 0, none⟩) 1 1]⟩) (ms := fun i => [(i.1, Obj.cells ⟨lkE (foL (-1) (-1))⟩ 76 (0, 0)), (i.2, Obj.cells ⟨lkE foC⟩ 76 (0, 0))]) rfl rfl rfl (fun W hW => follows_calls (-1) (-1) W) ?_
 rintro ⟨g1, g2⟩
 simp only [List.cons_append, List.nil_append]
 repeat (first|refine r_alloc rfl rfl rfl rfl (fun _ => ?_)|refine lVa rfl rfl (by first|exact vLd rfl (by repeat constructor) rfl (by rfl)|fail) ?_|refine lNi ?_|refine cRg ?_|refine cSq ?_|refine xTh ?_|refine rSt rfl rfl rfl rfl rfl rfl rfl (by repeat constructor) (by rfl) ?_|fail)
 rename_i bw bb
 refine r_callL (ι := { i : SolI // i.OK ⟨3, 3, foN 1, [foC]⟩ (adD ⟨3, 3, foN 1, [foC]⟩) (nxD ⟨3, 3, foN 1, [foC]⟩) }) (v := fun i => yesS i.1) (ms := fun i => i.1.m) rfl rfl rfl (fun W hW => (Solve_calls 3 3 (some ⟨f1, 0, none⟩) (some ⟨f2, 0, none⟩) 1 1 (foN 1) [foC] W (un_in 3 hW (by repeat constructor) (by repeat constructor)) (by decide) (by decide) chk_f3 (by decide)).mono fun e w' h => sol_yes vt_f3 h) ?_
 rintro ⟨i1, hi1⟩
 simp only
 refine l_perm List.perm_append_comm ?_
 simp only [List.cons_append, List.nil_append]
 repeat (first|refine lVa rfl rfl (by first|exact pEv rfl|exact vLd rfl (by repeat constructor) rfl (by rfl)|fail) ?_|refine lNi ?_|refine cRg ?_|refine cSq ?_|refine xTh ?_|fail)
 refine r_call (v := noS 0) rfl rfl rfl (fun W hW => (Solve_calls 3 2 (some ⟨f1, 0, none⟩) (some ⟨f2, 0, none⟩) 1 1 (foN 1) [foC] W (un_in 3 hW (by repeat constructor) (by repeat constructor)) (by decide) (by decide) chk_f2 (by decide)).mono fun e w' h => sol_no vt_f2 h) ?_
 repeat (first|refine lVa rfl rfl (by first|exact pEv rfl|exact vLd rfl (by repeat constructor) rfl (by rfl)|fail) ?_|refine lNi ?_|refine cRg ?_|refine cSq ?_|refine xTh ?_|fail)
 refine r_call (v := noS 0) rfl rfl rfl (fun W hW => (Solve_calls 3 9 (some ⟨g1, 0, none⟩) (some ⟨g2, 0, none⟩) 1 1 (foN (-1)) [foC] W (un_in 3 hW (by repeat constructor) (by repeat constructor)) (by decide) (by decide) chk_g9 (by decide)).mono fun e w' h => sol_no vt_g9 h) ?_
 repeat (first|refine lVa rfl rfl (by first|exact pEv rfl|exact vLd rfl (by repeat constructor) rfl (by rfl)|fail) ?_|refine lNi ?_|refine cRg ?_|refine cSq ?_|refine xTh ?_|fail)
 refine r_callL (ι := { i : SolI // i.OK ⟨3, 9, foN (-1), [foC]⟩ (adO ⟨3, 9, foN (-1), [foC]⟩) (nxO ⟨3, 9, foN (-1), [foC]⟩) }) (v := fun i => yesS i.1) (ms := fun i => i.1.m) rfl rfl rfl (fun W hW => (Spoil_calls 3 9 (some ⟨g1, 0, none⟩) (some ⟨g2, 0, none⟩) 1 1 (foN (-1)) [foC] W (un_in 3 hW (by repeat constructor) (by repeat constructor)) (by decide) (by decide) chk_g9 (by decide)).mono fun e w' h => sol_yes vt_g9 h) ?_
 rintro ⟨i2, hi2⟩
 simp only
 refine l_perm List.perm_append_comm ?_
 simp only [List.cons_append, List.nil_append]
 repeat (first|refine lVa rfl rfl (by first|exact pEv rfl|exact vLd rfl (by repeat constructor) rfl (by rfl)|fail) ?_|refine lNi ?_|refine cRg ?_|refine cSq ?_|refine xTh ?_|fail)
 refine r_call (v := noS 0) rfl rfl rfl (fun W hW => (Spoil_calls 1 1 none none 0 0 [] [] W (un_nil 1 W) (by decide) (by decide) chk_o1 (by decide)).mono fun e w' h => sol_no (fun h => h vt_o1) h) ?_
 repeat (first|refine lVa rfl rfl (by first|exact pEv rfl|exact vLd rfl (by repeat constructor) rfl (by rfl)|fail) ?_|refine lNi ?_|refine cRg ?_|refine cSq ?_|refine xTh ?_|fail)
 refine r_callL (ι := { i : SolI // i.OK ⟨1, 1, [], []⟩ (adD ⟨1, 1, [], []⟩) (nxD ⟨1, 1, [], []⟩) }) (v := fun i => yesS i.1) (ms := fun i => i.1.m) rfl rfl rfl (fun W hW => (Solve_calls 1 1 none none 0 0 [] [] W (un_nil 1 W) (by decide) (by decide) chk_o1 (by decide)).mono fun e w' h => sol_yes vt_o1 h) ?_
 rintro ⟨i3, hi3⟩
 simp only
 refine l_perm List.perm_append_comm ?_
 simp only [List.cons_append, List.nil_append]
 repeat (first|refine lVa rfl rfl (by first|exact pEv rfl|exact vLd rfl (by repeat constructor) rfl (by rfl)|fail) ?_|refine lNi ?_|refine cRg ?_|refine cSq ?_|refine xTh ?_|fail)
 obtain ⟨q1, q2⟩ := sol_read (n := 3) (T := 3) chk_f3 (by decide) vt_f3 hi1
 obtain ⟨ql, qr⟩ := rdC_small q1
 refine r_call (v := .tuple ⟨[.bool true, .int .i64 0]⟩) rfl rfl rfl (fun W hW => ?_) ?_
 ·obtain ⟨A1, c', hA1, hS1⟩ := strIn_own hi1 (fun p hp => (hW.own p (by repeat (first|exact hp|exact List.mem_append_right _ hp|exact List.mem_append_left _ hp|exact List.mem_append_left _ (List.mem_append_left _ hp)|exact List.mem_append_left _ (List.mem_append_right _ hp)|apply List.Mem.tail))).2)
  have := wins_at (u := ⟨3, some ⟨f1, 0, none⟩, 1, foN 1, some ⟨f2, 0, none⟩, 1, [foC]⟩) (cs := c') ((winsV_yes (n := 3) (T := 3) q1).trans (by rw [q2])) (un_in 3 hW (by repeat constructor) (by repeat constructor)) (show (1 : Nat) <= 1000 by decide) (show (1 : Nat) <= 1000 by decide) hS1 ql qr
  rw [<- hA1] at this
  exact this
 repeat (first|refine lVa rfl rfl (by first|exact pEv rfl|exact vLd rfl (by repeat constructor) rfl (by rfl)|fail) ?_|refine lNi ?_|refine cRg ?_|refine cSq ?_|refine xTh ?_|fail)
 obtain ⟨s1, s2⟩ := spo_read (n := 3) (T := 9) chk_g9 (by decide) vt_g9 hi2
 obtain ⟨sl, sr⟩ := rdC_small s1
 refine r_call (v := .tuple ⟨[.bool true, .int .i64 0]⟩) rfl rfl rfl (fun W hW => ?_) ?_
 ·obtain ⟨A1, c', hA1, hS1⟩ := strIn_own hi2 (fun p hp => (hW.own p (by repeat (first|exact hp|exact List.mem_append_right _ hp|exact List.mem_append_left _ hp|exact List.mem_append_left _ (List.mem_append_left _ hp)|exact List.mem_append_left _ (List.mem_append_right _ hp)|apply List.Mem.tail))).2)
  have := spoils_at (u := ⟨3, some ⟨g1, 0, none⟩, 1, foN (-1), some ⟨g2, 0, none⟩, 1, [foC]⟩) (cs := c') ((spoilsV_yes (n := 3) (T := 9) s1).trans (by rw [s2])) (un_in 3 hW (by repeat constructor) (by repeat constructor)) (show (1 : Nat) <= 1000 by decide) (show (1 : Nat) <= 1000 by decide) hS1 sl sr
  rw [<- hA1] at this
  exact this
 repeat (first|refine lVa rfl rfl (by first|exact pEv rfl|exact vLd rfl (by repeat constructor) rfl (by rfl)|fail) ?_|refine lNi ?_|refine cRg ?_|refine cSq ?_|refine xTh ?_|fail)
 refine r_call (v := .tuple ⟨[.bool false, .int .i64 0]⟩) rfl rfl rfl (fun W hW => ?_) ?_
 ·exact wins_at (u := ⟨1, none, 0, [], none, 0, []⟩) (rows := []) ((winsV_yes (n := 1) (T := 1) (rd_nil chk_o1)).trans (by rw [wn_o])) (un_nil 1 W) (by decide) (by decide) (str_nil W) (by decide) (fun r hr => by cases hr)
 repeat (first|refine lVa rfl rfl (by first|exact pEv rfl|exact vLd rfl (by repeat constructor) rfl (by rfl)|exact v_build rfl rfl (by rfl)|fail) ?_|refine lNi ?_|refine cRg ?_|refine cSq ?_|refine xTh ?_|refine r_buildSlice rfl rfl rfl rfl rfl rfl (by rfl) (fun _ => ?_)|fail)
 rename_i d1 d2 d3
 refine r_call (v := .tuple ⟨[.bool true, .int .i64 0]⟩) rfl rfl rfl (fun W hW => ?_) ?_
 ·exact wins_at (u := ⟨1, none, 0, [], none, 0, []⟩) (T := 1) (S := some ⟨d3, 0, none⟩) (cs := 1) (rows := [row1 (some ⟨d1, 0, none⟩) (some ⟨d2, 0, none⟩)]) ((winsV_yes (n := 1) (T := 1) (rd_1 (some ⟨d1, 0, none⟩) (some ⟨d2, 0, none⟩))).trans (by rw [wn_1])) (un_nil 1 W) (by decide) (by decide) (str_one hW (b := d3) (b1 := d1) (b2 := d2) (by repeat constructor) (by repeat constructor) (by repeat constructor)) (by simp) (fun r hr => by rw [List.mem_singleton.1 hr]; exact ⟨by simp [row1], by simp [row1]⟩)
 repeat (first|refine lVa rfl rfl (by first|exact pEv rfl|exact vLd rfl (by repeat constructor) rfl (by rfl)|fail) ?_|refine lNi ?_|refine cRg ?_|refine cSq ?_|refine xTh ?_|refine r_buildSlice rfl rfl rfl rfl rfl rfl (by rfl) (fun _ => ?_)|fail)
 rename_i d4
 refine r_call1 (ι := PlI) (v := fun i => .tuple ⟨[.slice (some ⟨i.b, 0, none⟩) 3 i.c, .int .i64 0]⟩) (bk := fun i => i.b) (o := fun i => .cells ⟨flI [0, 0, 0] ++ i.r⟩ 3 (0, 0)) rfl rfl rfl (fun W hW => (Play_calls ⟨3, some ⟨f1, 0, none⟩, 1, foN 1, some ⟨f2, 0, none⟩, 1, [foC]⟩ 3 none 0 [] (some ⟨d4, 0, none⟩) 1 [2] W (un_in 3 hW (by repeat constructor) (by repeat constructor)) (show (1 : Nat) <= 1000 by decide) (show (1 : Nat) <= 1000 by decide) (str_nil W) (by decide) (fun r hr => by cases hr) (int_at hW (b := d4) (by repeat constructor))).mono ?_) (fun i => ?_)
 ·rintro e w' ⟨h1, h2⟩
  rcases h2 with ⟨h3, _⟩ | ⟨_, i, h3, h4, h5⟩
  ·exact absurd plc_f3 h3
  ·rw [show plA ⟨((3 : Int)).toNat, ((3 : Int)).toNat, foN 1, [foC]⟩ [2] (tabW []) = [0, 0, 0] from pl_f3] at h3 h5
   exact ⟨i, h3, h1, h4, h5⟩
 repeat (first|refine lVa rfl rfl (by first|exact pEv rfl|exact vLd rfl (by repeat constructor) rfl (by rfl)|fail) ?_|refine lNi ?_|refine cRg ?_|refine cSq ?_|refine xTh ?_|refine c_false rfl ?_|refine cSk ?_|fail)
 refine r_call (v := .int .i64 1) rfl rfl rfl (fun W hW => checkS_at (u := ⟨1, none, 0, [], none, 0, []⟩) chk_o0 (un_nil 1 W) (by decide) (by decide)) ?_
 repeat (first|refine lVa rfl rfl (by first|exact pEv rfl|exact v_build rfl rfl (by rfl)|fail) ?_|refine l_dec_f rfl rfl rfl rfl rfl (by first|omega|exact fun h => h rfl|fail) ?_|fail)
 refine r_call (v := .int .i64 2) rfl rfl rfl (fun W hW => checkS_at (u := ⟨5, none, 0, [], none, 0, []⟩) chk_55 (un_nil 5 W) (by decide) (by decide)) ?_
 repeat (first|refine lVa rfl rfl (by first|exact pEv rfl|exact vLd rfl (by repeat constructor) rfl (by rfl)|fail) ?_|refine l_dec_f rfl rfl rfl rfl rfl (by first|omega|exact fun h => h rfl|fail) ?_|fail)
 refine r_call (v := .int .i64 0) rfl rfl rfl (fun W hW => checkS_at (u := ⟨3, some ⟨f1, 0, none⟩, 1, foN 1, some ⟨f2, 0, none⟩, 1, [foC]⟩) chk_f15 (un_in 3 hW (by repeat constructor) (by repeat constructor)) (show (1 : Nat) <= 1000 by decide) (show (1 : Nat) <= 1000 by decide)) ?_
 repeat (first|refine lVa rfl rfl (by first|exact pEv rfl|fail) ?_|refine lNi ?_|refine cRg ?_|refine cSq ?_|refine xTh ?_|refine r_buildSlice rfl rfl rfl rfl rfl rfl (by rfl) (fun _ => ?_)|refine c_false rfl ?_|refine cSk ?_|fail)
 rename_i d5
 refine r_call (v := .bool true) rfl rfl rfl (fun W hW => same15_calls (some ⟨i.b, 0, none⟩) (some ⟨d5, 0, none⟩) i.c 3 [0, 0, 0] [0, 0, 0] W (list_at i.r hW (b := i.b) (T := 3) (fr := (0, 0)) (by repeat constructor)) (list_at [] hW (b := d5) (T := 3) (fr := (0, 0)) (by repeat constructor)) (by decide)) ?_
 repeat (first|refine lVa rfl rfl (by first|exact pEv rfl|fail) ?_|refine lNi ?_|refine xTh ?_|refine c_ret ?_|fail)
 exact x_ret rfl rfl (by repeat constructor) rfl (fun W hW => ⟨rfl, hW.below⟩)
end R24
end Go.Proofs

/- Games on networks: Solve, Spoil, Wins and Spoils together. Plain Lean. -/
import Derived.Test.YtcodoembnjemkaaSgCnu
import Derived.Test.YtcodoembnjemkaaSgSq
import Derived.Test.YtcodoembnjemkaaGenCell
import Derived.Test.YtcodoembnjemkaaSgPd
import Derived.Test.YtcodoembnjemkaaCtA
import Derived.Test.YtcodoembnjemkaaSgRd
set_option linter.unusedSectionVars false
set_option linter.unusedVariables false
set_option linter.unusedSimpArgs false
namespace Go.Proofs
open Go.RowKit Go.Kin Go.Kin.St Go.Kin.Ct Go.Kin.Sg
namespace R24
theorem tree_root {n T : Nat} {L C : List Lk} (h : chkS n L C T = 0) : ∃ q, q < n ∧ into C (q : Nat) = none := by
  obtain ⟨h0, h1, h2, h3, h4, h5⟩ := chkS_ok h
  obtain ⟨c1, c2, c3, c4, c5, c6⟩ := R23.chkU_ok h0
  rw [Int.toNat_natCast] at c6
  have hn : 0 < n := by omega
  have he := c6.ends 0 hn
  have hin := climb_in (n := (n : Int)) c6.cal n ((0 : Nat) : Int) (by omega) (by omega)
  refine ⟨(climb C n ((0 : Nat) : Int)).2.toNat, by omega, ?_⟩
  rw [show (((climb C n ((0 : Nat) : Int)).2.toNat : Nat) : Int) = (climb C n ((0 : Nat) : Int)).2 by omega]
  exact he
theorem sol_read {n T : Nat} {L C : List Lk} {i : SolI} (h0 : chkS n L C T = 0) (hf : (T + 2) ^ n ≤ 3000) (hv : Vt ⟨n, T, L, C⟩ 0 (List.replicate n 0)) (hi : i.OK ⟨n, T, L, C⟩ (adD ⟨n, T, L, C⟩) (nxD ⟨n, T, L, C⟩)) :
    rdC n L C T (i.rows.map drW) = 0 ∧ wnG ⟨n, T, L, C⟩ (i.rows.map drW) = true := by
  have hb := (tree_gok (A := none) (B := none) (ca := 0) (cb := 0) (m := 0) h0).1
  have hok : okS n T (i.rows.map drW) := okS_of hi fun d hd => by
    obtain ⟨p, h1, h2, h3⟩ := (hi.d d).1 hd
    exact okX_D hb hv h1 h2 h3
  have hc := count_D hb hv (tree_root h0) hf hi
  refine ⟨rdC_0 h0 (by rw [List.length_map]; omega) (by rw [Int.toNat_natCast, Int.toNat_natCast]; exact hok), ?_⟩
  unfold wnG
  exact @decide_eq_true _ (Classical.propDecidable _) (Wn_sol (G := ⟨n, T, L, C⟩) (holds_of hi) hv)
theorem spo_read {n T : Nat} {L C : List Lk} {i : SolI} (h0 : chkS n L C T = 0) (hf : (T + 2) ^ n ≤ 3000) (hv : ¬ Vt ⟨n, T, L, C⟩ 0 (List.replicate n 0)) (hi : i.OK ⟨n, T, L, C⟩ (adO ⟨n, T, L, C⟩) (nxO ⟨n, T, L, C⟩)) :
    rdC n L C T (i.rows.map drW) = 0 ∧ spG ⟨n, T, L, C⟩ (i.rows.map drW) = true := by
  have hb := (tree_gok (A := none) (B := none) (ca := 0) (cb := 0) (m := 0) h0).1
  have hok : okS n T (i.rows.map drW) := okS_of hi fun d hd => by
    obtain ⟨p, h1, h2, h3⟩ := (hi.d d).1 hd
    exact okX_O hb hv h1 h2 h3
  have hc := count_O hb hv hf hi
  refine ⟨rdC_0 h0 (by rw [List.length_map]; omega) (by rw [Int.toNat_natCast, Int.toNat_natCast]; exact hok), ?_⟩
  unfold spG
  exact @decide_eq_true _ (Classical.propDecidable _) (Sp_sol (G := ⟨n, T, L, C⟩) (holds_of hi) hv)
/-- a strategy of one's own lies in the world -/
theorem strIn_own {i : SolI} {w : World} {G : Gm} {ad : Pos → List Dec} {nx : Pos → List Pos} (hi : i.OK G ad nx) (hm : ∀ p ∈ i.m, w.heap[p.1]? = some p.2) : ∃ A c, i.v = .slice A (i.rows.map drW).length c ∧ StrIn w A (i.rows.map drW) := by
  have hkn : ∀ r ∈ i.rows, r.knM ++ r.doM ⊆ i.m := fun r hr x hx => by
    unfold SolI.m rowsM
    exact List.mem_append_right _ (List.mem_flatMap.2 ⟨r, hr, hx⟩)
  have hcell : ∀ {b : Nat} {cs : List Value} {T : TypeId}, (b, Obj.cells ⟨cs⟩ T (0, 0)) ∈ i.m → ∀ k v, cs[k]? = some v → w.cell? ⟨b, k, none⟩ = some v := fun {b cs T} hb k v hv => by
    unfold World.cell?
    simp only
    rw [hm _ hb]
    show (⟨cs⟩ : Array Value)[k]? = some v
    simpa using hv
  have hK : ∀ r ∈ i.rows.map drW, At w r.K 1 (r.l.map inE) := fun r hr => by
    obtain ⟨x, hx, rfl⟩ := List.mem_map.1 hr
    refine fun k cs hk => ⟨x.bk, 0, rfl, fun j v hj => ?_⟩
    rw [List.getElem?_map] at hk
    obtain ⟨y, hy, rfl⟩ := Option.map_eq_some_iff.1 hk
    cases j with
    | succ j => cases hj
    | zero =>
      cases hj
      rw [show 0 + k * 1 + 0 = k by omega]
      exact hcell (hkn x hx (List.mem_append_left _ List.mem_cons_self)) k _ (flI_get hy _)
  have hD : ∀ r ∈ i.rows.map drW, At w r.D 1 (r.d.map inE) := fun r hr => by
    obtain ⟨x, hx, rfl⟩ := List.mem_map.1 hr
    refine fun k cs hk => ⟨x.bd, 0, rfl, fun j v hj => ?_⟩
    rw [List.getElem?_map] at hk
    obtain ⟨y, hy, rfl⟩ := Option.map_eq_some_iff.1 hk
    cases j with
    | succ j => cases hj
    | zero =>
      cases hj
      rw [show 0 + k * 1 + 0 = k by omega]
      refine hcell (hkn x hx (List.mem_append_right _ List.mem_cons_self)) k _ ?_
      have h1 : (x.d.map nE).flatten = flI (x.d.map fun x : Nat => (x : Int)) := by unfold flI; rw [List.map_map]; rfl
      rw [h1]
      exact flI_get hy _
  cases hr : i.rows with
  | nil =>
    refine ⟨none, 0, by unfold SolI.v; rw [hr]; rfl, ?_⟩
    rw [← hr]
    exact ⟨fun k cs hk => by rw [hr] at hk; simp at hk, hK, hD⟩
  | cons r0 rs =>
    refine ⟨some ⟨i.b, 0, none⟩, i.c, by unfold SolI.v; rw [hr, List.length_map]; rfl, ?_⟩
    rw [← hr]
    refine ⟨fun k cs hk => ⟨i.b, 0, rfl, fun j v hj => ?_⟩, hK, hD⟩
    rw [List.map_map, List.getElem?_map] at hk
    obtain ⟨x, hx, rfl⟩ := Option.map_eq_some_iff.1 hk
    have hj : (drE x)[j]? = some v := by rw [← drW_E]; exact hj
    have hat := dr_at (rest := i.r) hx
    have hb : (i.b, Obj.cells ⟨(i.rows.map drE).flatten ++ i.r⟩ 57 (0, 0)) ∈ i.m := by
      unfold SolI.m
      refine List.mem_append_left _ ?_
      rw [hr]; exact List.mem_cons_self
    refine hcell hb _ v ?_
    have h2 : ((((i.rows.map drE).flatten ++ i.r).drop (k * 3)).take (drE x).length)[j]? = (drE x)[j]? := congrArg (fun l : List Value => l[j]?) hat.eq
    have hj3 : j < (drE x).length := (List.getElem?_eq_some_iff.1 hj).1
    rw [List.getElem?_take_of_lt hj3, List.getElem?_drop, hj] at h2
    rw [Nat.zero_add]; exact h2
end R24
end Go.Proofs

set_option linter.unusedSectionVars false
set_option linter.unusedVariables false
set_option linter.unusedSimpArgs false
namespace Go.Kin.Sg
def WnB (G : Gm) (t : Tab) : Nat → Nat → List Int → Bool
  | 0, _, l => kB G l
  | f + 1, k, l => (allCh (may G k l) (due G k l)).all fun S => ((doD t k (put l S (k + 1))).all fun x => decide (x ∈ free G (put l S (k + 1)))) && WnB G t f (k + 1) (put (put l S (k + 1)) (doD t k (put l S (k + 1))) (k + 1))
theorem WnB_iff {G : Gm} {t : Tab} : ∀ {f k : Nat} {l : List Int}, WnB G t f k l = true ↔ Wn G t f k l
  | 0, _, _ => kB_iff
  | f + 1, k, l => by
    unfold WnB Wn
    rw [List.all_eq_true]
    constructor
    · intro h S hS
      have h1 := h S (ch_mem.1 hS)
      rw [Bool.and_eq_true, List.all_eq_true] at h1
      exact ⟨fun x hx => of_decide_eq_true (h1.1 x hx), WnB_iff.1 h1.2⟩
    · intro h S hS
      obtain ⟨h1, h2⟩ := h S (ch_mem.2 hS)
      rw [Bool.and_eq_true, List.all_eq_true]
      exact ⟨fun x hx => decide_eq_true (h1 x hx), WnB_iff.2 h2⟩
end Go.Kin.Sg
namespace Go.Proofs
open Go.RowKit Go.Kin Go.Kin.St Go.Kin.Ct Go.Kin.Sg
namespace R24
def foN (lo : Int) : List Lk := [foL lo lo]
theorem ends_1 {n : Int} {x : Lk} (h : Cal n x) (h2 : into [x] x.to = some 0) : R23.Ends n [x] := fun i y hy => by
  cases i with
  | zero => cases hy; exact ⟨h, h2⟩
  | succ i => simp at hy
theorem ends_0 {n : Int} : R23.Ends n [] := fun i y hy => by simp at hy
theorem okT_of {N : Nat} {C : List Lk} (h : ((List.range N).all fun p : Nat => (into C (climb C N p).2).isNone) = true) : R23.okT N C := fun p hp => by
  have := List.all_eq_true.1 h p (List.mem_range.2 hp)
  exact Option.isNone_iff_eq_none.1 this
theorem chkU_f1 : R23.chkU 3 (foN 1) [foC] = 0 := R23.chkU_0 (by decide) (by decide) ⟨ends_1 (by decide) (by decide), okT_of (by decide)⟩
theorem chkU_f9 : R23.chkU 3 (foN (-1)) [foC] = 0 := R23.chkU_0 (by decide) (by decide) ⟨ends_1 (by decide) (by decide), okT_of (by decide)⟩
theorem chkU_o : R23.chkU 1 [] [] = 0 := R23.chkU_0 (by decide) (by decide) ⟨ends_0, okT_of (by decide)⟩
theorem chkU_5 : R23.chkU 5 [] [] = 0 := R23.chkU_0 (by decide) (by decide) ⟨ends_0, okT_of (by decide)⟩
theorem chk_f3 : chkS 3 (foN 1) [foC] 3 = 0 := (chkS_3 chkU_f1 (by decide) (by decide)).trans (by decide)
theorem chk_f2 : chkS 3 (foN 1) [foC] 2 = 0 := (chkS_3 chkU_f1 (by decide) (by decide)).trans (by decide)
theorem chk_f15 : chkS 3 (foN 1) [foC] 15 = 0 := (chkS_3 chkU_f1 (by decide) (by decide)).trans (by decide)
theorem chk_g9 : chkS 3 (foN (-1)) [foC] 9 = 0 := (chkS_3 chkU_f9 (by decide) (by decide)).trans (by decide)
theorem chk_o1 : chkS 1 [] [] 1 = 0 := (chkS_3 chkU_o (by decide) (by decide)).trans (by decide)
theorem chk_o0 : chkS 1 [] [] 0 = 1 := chkS_1 chkU_o (by decide)
theorem chk_55 : chkS 5 [] [] 5 = 2 := chkS_2 chkU_5 (by decide) (by decide)
theorem vt_f3 : Vt ⟨3, 3, foN 1, [foC]⟩ 0 (List.replicate 3 0) := (Vt_dec v_f3).2 rfl
theorem vt_f2 : ¬ Vt ⟨3, 2, foN 1, [foC]⟩ 0 (List.replicate 3 0) := fun h => by cases (Vt_dec v_f2).1 h
theorem vt_g9 : ¬ Vt ⟨3, 9, foN (-1), [foC]⟩ 0 (List.replicate 3 0) := fun h => by cases (Vt_dec v_g9).1 h
theorem vt_o1 : Vt ⟨1, 1, [], []⟩ 0 (List.replicate 1 0) := (Vt_dec v_one).2 rfl
theorem rd_nil {n T : Int} {L C : List Lk} (h : chkS n L C T = 0) : rdC n L C T [] = 0 := rdC_0 h (by decide) (fun i r hr => by simp at hr)
theorem wn_o : wnG ⟨1, 1, [], []⟩ [] = false := by
  unfold wnG
  refine @decide_eq_false _ (Classical.propDecidable _) fun h => ?_
  have h2 : WnB ⟨1, 1, [], []⟩ (fun _ _ => none) 2 0 [0] = false := by decide +kernel
  have h3 : WnB ⟨1, 1, [], []⟩ (fun _ _ => none) 2 0 [0] = true := WnB_iff.2 h
  rw [h2] at h3; cases h3
def row1 (K : Option Addr) (D : Option Addr) : DW := ⟨0, [0], [0], K, 1, D, 1⟩
theorem tab1 (K D : Option Addr) : tabW [row1 K D] = fun (k : Nat) (l : List Int) => if (0 : Int) = (k : Int) ∧ [(0 : Int)] = l then some [0] else none := by
  funext k l
  unfold tabW rowOf row1
  rw [List.find?_cons]
  simp only
  by_cases h1 : (0 : Int) = (k : Int)
  · by_cases h2 : [(0 : Int)] = l
    · rw [decide_eq_true h1, decide_eq_true h2, if_pos ⟨h1, h2⟩]; rfl
    · rw [decide_eq_true h1, decide_eq_false h2, if_neg (fun h => h2 h.2)]; rfl
  · rw [decide_eq_false h1, if_neg (fun h => h1 h.1)]; rfl
theorem rd_1 (K D : Option Addr) : rdC 1 [] [] 1 [row1 K D] = 0 := rdC_0 chk_o1 (by simp) (fun i r hr => by
  cases i with
  | succ i => simp at hr
  | zero =>
    simp only [List.getElem?_cons_zero, Option.some.injEq] at hr
    subst hr
    refine ⟨(by show (0 : Int) ≤ 0; decide), (by show (0 : Int) ≤ 1; decide), rfl, (by show [(0 : Int)] ≠ []; decide), (fun j p h => (by cases h)), (fun i x hx => ?_), (fun x hx => ?_)⟩
    · cases i with
      | succ i => simp [row1] at hx
      | zero => simp only [row1, List.getElem?_cons_zero, Option.some.injEq] at hx; subst hx; exact ⟨(by show (-1 : Int) < 0; decide), (by decide)⟩
    · simp only [row1, List.mem_singleton] at hx; subst hx; exact ⟨(by decide), (by show (0 : Int) ≤ 0 + 1; decide)⟩)
theorem wn_1 (K D : Option Addr) : wnG ⟨1, 1, [], []⟩ [row1 K D] = true := by
  unfold wnG
  refine @decide_eq_true _ (Classical.propDecidable _) ?_
  rw [tab1]
  refine WnB_iff.1 ?_
  decide +kernel
theorem pl_f3 : plA ⟨3, 3, foN 1, [foC]⟩ [2] (tabW []) = [0, 0, 0] := by
  have : plA ⟨3, 3, foN 1, [foC]⟩ [2] (fun _ _ => none) = [0, 0, 0] := by decide +kernel
  exact this
theorem plc_f3 : plc 3 (foN 1) [foC] 3 [] [2] = 0 := plc_0 (rd_nil chk_f3) ⟨rfl, fun i x hx => by
  cases i with
  | succ i => simp at hx
  | zero => simp only [List.getElem?_cons_zero, Option.some.injEq] at hx; subst hx; decide⟩
end R24
end Go.Proofs

set_option linter.unusedSectionVars false
set_option linter.unusedVariables false
set_option linter.unusedSimpArgs false
namespace Go.Proofs
open Go.RowKit Go.Kin Go.Kin.St Go.Kin.Ct
open R22
namespace R23
/-- few, or too many -/
def fewB (n : Int) (l c : Nat) : Bool := decide (¬ (30 < l ∧ l ≤ 256) ∧ l ≤ 300 ∧ ¬ (30 < c ∧ c ≤ 256) ∧ c ≤ 300 ∧ (n ≤ 16 ∨ 64 < n))
set_option maxHeartbeats 40000000 in
theorem Few_calls (u : Un) (w : World) : Calls Try.prog 25 ⟨[.agg ⟨u.v⟩]⟩ w fun e w' => e = .returned (.bool (fewB u.n u.L.length u.C.length)) ∧ Below w.heap.size w w' := by
  obtain ⟨n, A, cap, L, B, cab, C⟩ := u
  simp only [Un.v]
  generalize L.length = l
  generalize C.length = c
  refine fun_enter Try.func25 rfl Try.ntmps25 rfl rfl (satW_nil w) ?_
  unfold fewB
  by_cases a1 : 30 < l ∧ l ≤ 256
  · obtain ⟨a1, a2⟩ := a1
    rw [decide_eq_false (by omega)]
    repeat (first | refine l_val rfl rfl (by first | exact pureEval_ok rfl | exact v_load rfl (by repeat (first | exact List.Mem.head _ | apply List.Mem.tail)) rfl (by rfl)  | fail) ?_ | refine l_nil ?_ | refine c_region ?_ | refine c_seq ?_ | refine x_then ?_ | refine l_skip rfl rfl ?_ | refine r_box rfl rfl rfl rfl (fun _ => ?_) | refine c_true rfl ?_ | refine c_ret ?_ | refine x_then_ret ?_ | refine l_dec_t rfl rfl rfl rfl rfl (by first | omega  | fail) ?_  | fail)
    exact x_ret rfl rfl (by repeat (first | exact Res.nil | (apply Res.tmp; rfl) | (apply Res.cell; rfl; exact (by repeat (first | exact List.Mem.head _ | apply List.Mem.tail)); rfl; rfl))) rfl (fun W hW => ⟨rfl, hW.below⟩)
  by_cases a2 : 300 < l
  · rw [decide_eq_false (by omega)]
    repeat (first | refine l_val rfl rfl (by first | exact pureEval_ok rfl | exact v_load rfl (by repeat (first | exact List.Mem.head _ | apply List.Mem.tail)) rfl (by rfl)  | fail) ?_ | refine l_nil ?_ | refine c_region ?_ | refine c_seq ?_ | refine x_then ?_ | refine l_skip rfl rfl ?_ | refine r_box rfl rfl rfl rfl (fun _ => ?_) | refine c_true rfl ?_ | refine c_ret ?_ | refine x_then_ret ?_ | refine l_dec_t rfl rfl rfl rfl rfl (by first | omega  | fail) ?_ | refine l_dec_f rfl rfl rfl rfl rfl (by first | omega  | fail) ?_  | fail)
    exact x_ret rfl rfl (by repeat (first | exact Res.nil | (apply Res.tmp; rfl) | (apply Res.cell; rfl; exact (by repeat (first | exact List.Mem.head _ | apply List.Mem.tail)); rfl; rfl))) rfl (fun W hW => ⟨rfl, hW.below⟩)
  have a3 : l ≤ 30 ∨ 256 < l := by omega
  clear a1
  by_cases b1 : 30 < c ∧ c ≤ 256
  · obtain ⟨b1, b2⟩ := b1
    rw [decide_eq_false (by omega)]
    rcases a3 with a3 | a3
    · repeat (first | refine l_val rfl rfl (by first | exact pureEval_ok rfl | exact v_load rfl (by repeat (first | exact List.Mem.head _ | apply List.Mem.tail)) rfl (by rfl)  | fail) ?_ | refine l_nil ?_ | refine c_region ?_ | refine c_seq ?_ | refine x_then ?_ | refine l_skip rfl rfl ?_ | refine r_box rfl rfl rfl rfl (fun _ => ?_) | refine c_true rfl ?_ | refine c_ret ?_ | refine x_then_ret ?_ | refine l_dec_t rfl rfl rfl rfl rfl (by first | omega  | fail) ?_ | refine l_dec_f rfl rfl rfl rfl rfl (by first | omega  | fail) ?_  | fail)
      exact x_ret rfl rfl (by repeat (first | exact Res.nil | (apply Res.tmp; rfl) | (apply Res.cell; rfl; exact (by repeat (first | exact List.Mem.head _ | apply List.Mem.tail)); rfl; rfl))) rfl (fun W hW => ⟨rfl, hW.below⟩)
    · repeat (first | refine l_val rfl rfl (by first | exact pureEval_ok rfl | exact v_load rfl (by repeat (first | exact List.Mem.head _ | apply List.Mem.tail)) rfl (by rfl)  | fail) ?_ | refine l_nil ?_ | refine c_region ?_ | refine c_seq ?_ | refine x_then ?_ | refine l_skip rfl rfl ?_ | refine r_box rfl rfl rfl rfl (fun _ => ?_) | refine c_true rfl ?_ | refine c_ret ?_ | refine x_then_ret ?_ | refine l_dec_t rfl rfl rfl rfl rfl (by first | omega  | fail) ?_ | refine l_dec_f rfl rfl rfl rfl rfl (by first | omega  | fail) ?_  | fail)
      exact x_ret rfl rfl (by repeat (first | exact Res.nil | (apply Res.tmp; rfl) | (apply Res.cell; rfl; exact (by repeat (first | exact List.Mem.head _ | apply List.Mem.tail)); rfl; rfl))) rfl (fun W hW => ⟨rfl, hW.below⟩)
  by_cases b2 : 300 < c
  · rw [decide_eq_false (by omega)]
    rcases a3 with a3 | a3
    · repeat (first | refine l_val rfl rfl (by first | exact pureEval_ok rfl | exact v_load rfl (by repeat (first | exact List.Mem.head _ | apply List.Mem.tail)) rfl (by rfl)  | fail) ?_ | refine l_nil ?_ | refine c_region ?_ | refine c_seq ?_ | refine x_then ?_ | refine l_skip rfl rfl ?_ | refine r_box rfl rfl rfl rfl (fun _ => ?_) | refine c_dec_t rfl (by first | omega  | fail) ?_ | refine c_ret ?_ | refine x_then_ret ?_ | refine l_dec_t rfl rfl rfl rfl rfl (by first | omega  | fail) ?_ | refine l_dec_f rfl rfl rfl rfl rfl (by first | omega  | fail) ?_  | fail)
      exact x_ret rfl rfl (by repeat (first | exact Res.nil | (apply Res.tmp; rfl) | (apply Res.cell; rfl; exact (by repeat (first | exact List.Mem.head _ | apply List.Mem.tail)); rfl; rfl))) rfl (fun W hW => ⟨rfl, hW.below⟩)
    · repeat (first | refine l_val rfl rfl (by first | exact pureEval_ok rfl | exact v_load rfl (by repeat (first | exact List.Mem.head _ | apply List.Mem.tail)) rfl (by rfl)  | fail) ?_ | refine l_nil ?_ | refine c_region ?_ | refine c_seq ?_ | refine x_then ?_ | refine r_box rfl rfl rfl rfl (fun _ => ?_) | refine c_dec_t rfl (by first | omega  | fail) ?_ | refine c_ret ?_ | refine x_then_ret ?_ | refine l_dec_t rfl rfl rfl rfl rfl (by first | omega  | fail) ?_ | refine l_dec_f rfl rfl rfl rfl rfl (by first | omega  | fail) ?_  | fail)
      exact x_ret rfl rfl (by repeat (first | exact Res.nil | (apply Res.tmp; rfl) | (apply Res.cell; rfl; exact (by repeat (first | exact List.Mem.head _ | apply List.Mem.tail)); rfl; rfl))) rfl (fun W hW => ⟨rfl, hW.below⟩)
  have b3 : c ≤ 30 ∨ 256 < c := by omega
  clear b1
  by_cases n1 : n ≤ 16
  · rw [decide_eq_true (by omega)]
    rcases a3 with a3 | a3 <;> rcases b3 with b3 | b3
    all_goals
      repeat (first | refine l_val rfl rfl (by first | exact pureEval_ok rfl | exact v_load rfl (by repeat (first | exact List.Mem.head _ | apply List.Mem.tail)) rfl (by rfl)  | fail) ?_ | refine l_nil ?_ | refine c_region ?_ | refine c_seq ?_ | refine x_then ?_ | refine l_skip rfl rfl ?_ | refine r_box rfl rfl rfl rfl (fun _ => ?_) | refine c_dec_f rfl (by first | omega  | fail) ?_ | refine c_skip ?_ | refine c_ret ?_ | refine l_dec_t rfl rfl rfl rfl rfl (by first | omega  | fail) ?_ | refine l_dec_f rfl rfl rfl rfl rfl (by first | omega  | fail) ?_  | fail)
      exact x_ret rfl rfl (by repeat (first | exact Res.nil | (apply Res.tmp; rfl) | (apply Res.cell; rfl; exact (by repeat (first | exact List.Mem.head _ | apply List.Mem.tail)); rfl; rfl))) rfl (fun W hW => ⟨rfl, hW.below⟩)
  · by_cases n2 : 64 < n
    · rw [decide_eq_true (by omega)]
      rcases a3 with a3 | a3 <;> rcases b3 with b3 | b3
      all_goals
        repeat (first | refine l_val rfl rfl (by first | exact pureEval_ok rfl | exact v_load rfl (by repeat (first | exact List.Mem.head _ | apply List.Mem.tail)) rfl (by rfl)  | fail) ?_ | refine l_nil ?_ | refine c_region ?_ | refine c_seq ?_ | refine x_then ?_ | refine l_skip rfl rfl ?_ | refine r_box rfl rfl rfl rfl (fun _ => ?_) | refine c_dec_f rfl (by first | omega  | fail) ?_ | refine c_skip ?_ | refine c_ret ?_ | refine l_dec_t rfl rfl rfl rfl rfl (by first | omega  | fail) ?_ | refine l_dec_f rfl rfl rfl rfl rfl (by first | omega  | fail) ?_  | fail)
        exact x_ret rfl rfl (by repeat (first | exact Res.nil | (apply Res.tmp; rfl) | (apply Res.cell; rfl; exact (by repeat (first | exact List.Mem.head _ | apply List.Mem.tail)); rfl; rfl))) rfl (fun W hW => ⟨by rw [decide_eq_true n2], hW.below⟩)
    · rw [decide_eq_false (by omega)]
      rcases a3 with a3 | a3 <;> rcases b3 with b3 | b3
      all_goals
        repeat (first | refine l_val rfl rfl (by first | exact pureEval_ok rfl | exact v_load rfl (by repeat (first | exact List.Mem.head _ | apply List.Mem.tail)) rfl (by rfl)  | fail) ?_ | refine l_nil ?_ | refine c_region ?_ | refine c_seq ?_ | refine x_then ?_ | refine l_skip rfl rfl ?_ | refine r_box rfl rfl rfl rfl (fun _ => ?_) | refine c_dec_f rfl (by first | omega  | fail) ?_ | refine c_skip ?_ | refine c_ret ?_ | refine l_dec_t rfl rfl rfl rfl rfl (by first | omega  | fail) ?_ | refine l_dec_f rfl rfl rfl rfl rfl (by first | omega  | fail) ?_  | fail)
        exact x_ret rfl rfl (by repeat (first | exact Res.nil | (apply Res.tmp; rfl) | (apply Res.cell; rfl; exact (by repeat (first | exact List.Mem.head _ | apply List.Mem.tail)); rfl; rfl))) rfl (fun W hW => ⟨by rw [decide_eq_false n2], hW.below⟩)
end R23
end Go.Proofs

set_option linter.unusedSectionVars false
set_option linter.unusedVariables false
set_option linter.unusedSimpArgs false
namespace Go.Proofs
open Go.RowKit Go.Kin Go.Kin.St Go.Kin.Ct Go.Kin.Sg
namespace R24
def fdB (rows : List DW) : Bool := decide (¬ ((600 < rows.length ∧ rows.length ≤ 4096) ∨ 5000 < rows.length)) && rows.all fun r => decide (r.l.length ≤ 20 ∧ r.d.length ≤ 20)
set_option maxRecDepth 100000 in
set_option maxHeartbeats 80000000 in
theorem FewD_calls (S : Option Addr) (cs : Nat) (rows : List DW) (w : World) (hS : At w S 3 (rows.map dwE)) :
    Calls Try.prog 10 ⟨[.slice S rows.length cs]⟩ w fun e w' => e = .returned (.bool (fdB rows)) ∧ Below w.heap.size w w' := by
  refine fun_enter Try.func10 rfl Try.ntmps10 rfl rfl (satW_nil w) ?_
  by_cases hbad : (600 < rows.length ∧ rows.length ≤ 4096) ∨ 5000 < rows.length
  · have hv : fdB rows = false := by unfold fdB; rw [decide_eq_false (fun h => h hbad)]; rfl
    rw [hv]
    by_cases h1 : 600 < rows.length
    · by_cases h2 : rows.length ≤ 4096
      · repeat (first | refine l_val rfl rfl (by first | exact pureEval_ok rfl  | fail) ?_ | refine l_nil ?_ | refine c_region ?_ | refine c_seq ?_ | refine x_then ?_ | refine l_skip rfl rfl ?_ | refine c_true rfl ?_ | refine c_ret ?_ | refine x_then_ret ?_ | refine l_dec_t rfl rfl rfl rfl rfl (by first | omega  | fail) ?_  | fail)
        exact x_ret rfl rfl (by repeat (first | exact Res.nil | (apply Res.tmp; rfl) | (apply Res.cell; rfl; exact (by repeat (first | exact List.Mem.head _ | apply List.Mem.tail)); rfl; rfl))) rfl (fun W hW => ⟨rfl, hW.below⟩)
      · have h3 : 5000 < rows.length := by omega
        repeat (first | refine l_val rfl rfl (by first | exact pureEval_ok rfl  | fail) ?_ | refine l_nil ?_ | refine c_region ?_ | refine c_seq ?_ | refine x_then ?_ | refine c_dec_t rfl (by first | omega  | fail) ?_ | refine c_ret ?_ | refine x_then_ret ?_ | refine l_dec_t rfl rfl rfl rfl rfl (by first | omega  | fail) ?_ | refine l_dec_f rfl rfl rfl rfl rfl (by first | omega  | fail) ?_  | fail)
        exact x_ret rfl rfl (by repeat (first | exact Res.nil | (apply Res.tmp; rfl) | (apply Res.cell; rfl; exact (by repeat (first | exact List.Mem.head _ | apply List.Mem.tail)); rfl; rfl))) rfl (fun W hW => ⟨rfl, hW.below⟩)
    · have h3 : 5000 < rows.length := by omega
      repeat (first | refine l_val rfl rfl (by first | exact pureEval_ok rfl  | fail) ?_ | refine l_nil ?_ | refine c_region ?_ | refine c_seq ?_ | refine x_then ?_ | refine l_skip rfl rfl ?_ | refine c_true rfl ?_ | refine c_ret ?_ | refine x_then_ret ?_ | refine l_dec_t rfl rfl rfl rfl rfl (by first | omega  | fail) ?_  | fail)
      exact x_ret rfl rfl (by repeat (first | exact Res.nil | (apply Res.tmp; rfl) | (apply Res.cell; rfl; exact (by repeat (first | exact List.Mem.head _ | apply List.Mem.tail)); rfl; rfl))) rfl (fun W hW => ⟨rfl, hW.below⟩)
  have h5 : rows.length ≤ 5000 := by omega
  have h6 : rows.length ≤ 600 ∨ 4096 < rows.length := by omega
  have hv : fdB rows = rows.all fun r => decide (r.l.length ≤ 20 ∧ r.d.length ≤ 20) := by unfold fdB; rw [decide_eq_true hbad]; rfl
  rw [hv]
  rcases h6 with h6 | h6
  all_goals
    repeat ((fail_if_success refine c_probe (id := 4) ?_); (fail_if_success refine c_probe1 (id := 4) ?_); first | refine l_val rfl rfl (by first | exact pureEval_ok rfl  | fail) ?_ | refine l_nil ?_ | refine c_region ?_ | refine c_seq ?_ | refine x_then ?_ | refine l_skip rfl rfl ?_ | refine c_false rfl ?_ | refine c_dec_f rfl (by first | omega  | fail) ?_ | refine c_block ?_ | refine c_skip ?_ | refine l_dec_t rfl rfl rfl rfl rfl (by first | omega  | fail) ?_ | refine l_dec_f rfl rfl rfl rfl rfl (by first | omega  | fail) ?_  | fail)
    refine c_loop (ι := Nat) (fun i => i ≤ rows.length ∧ ∀ r ∈ rows.take i, r.l.length ≤ 20 ∧ r.d.length ≤ 20) (fun i => [(0, .slice S rows.length cs), (3, .int .i64 i)]) (fun _ => []) (fun i => rows.length - i) 0 ⟨Nat.zero_le _, fun r hr => by simp at hr⟩ (by repeat (first | exact EnvSub.nil | refine EnvSub.cons rfl (by first | rfl | (congr 1; done) | (exact congrArg (Value.int _) (by omega)) | (simp; done)) ?_)) (by repeat (first | exact MSub.nil | refine MSub.keep (by first | rfl | assumption) ?_ | refine MSub.drop ?_ | exact MSub.refl _)) ?_
    rintro i ⟨hi, hI⟩
    by_cases hlt : i < rows.length
    · obtain ⟨r, hr⟩ : ∃ r, rows[i]? = some r := ⟨_, List.getElem?_eq_getElem hlt⟩
      obtain ⟨bS, oS, hSe, hcr⟩ := hS i (dwE r) (by rw [List.getElem?_map, hr]; rfl)
      have he := ext_of hcr
      subst hSe
      have hno : ¬ (r.l.length ≤ 20 ∧ r.d.length ≤ 20) → (rows.all fun r => decide (r.l.length ≤ 20 ∧ r.d.length ≤ 20)) = false := fun h => by
        cases ha : rows.all fun r => decide (r.l.length ≤ 20 ∧ r.d.length ≤ 20) with
        | false => rfl
        | true => exact absurd (of_decide_eq_true (List.all_eq_true.1 ha r (List.mem_of_getElem? hr))) h
      by_cases a1 : 20 < r.l.length
      · rw [hno (by omega)]
        repeat (first | refine l_val rfl rfl (by first | exact pureEval_ok rfl | exact v_load_ext rfl (by assumption) rfl (by rfl) | exact v_index rfl rfl rfl rfl (by omega) (by omega) (by with_reducible first | exact idx4 _ _ _   | fail)  | fail) ?_ | refine l_nil ?_ | refine c_region ?_ | refine c_seq ?_ | refine x_then ?_ | refine l_skip rfl rfl ?_ | refine c_true rfl ?_ | refine c_dec_t rfl (by first | omega  | fail) ?_ | refine c_block ?_ | refine c_skip ?_ | refine c_ret ?_ | refine x_then_ret ?_ | refine x_block_ret ?_ | refine l_dec_t rfl rfl rfl rfl rfl (by first | omega  | fail) ?_  | fail)
        exact x_ret rfl rfl (by repeat (first | exact Res.nil | (apply Res.tmp; rfl) | (apply Res.cell; rfl; exact (by repeat (first | exact List.Mem.head _ | apply List.Mem.tail)); rfl; rfl))) rfl (fun W hW => ⟨rfl, hW.below⟩)
      by_cases a2 : 20 < r.d.length
      · rw [hno (by omega)]
        repeat (first | refine l_val rfl rfl (by first | exact pureEval_ok rfl | exact v_load_ext rfl (by assumption) rfl (by rfl) | exact v_index rfl rfl rfl rfl (by omega) (by omega) (by with_reducible first | exact idx4 _ _ _   | fail)  | fail) ?_ | refine l_nil ?_ | refine c_region ?_ | refine c_seq ?_ | refine x_then ?_ | refine c_dec_t rfl (by first | omega  | fail) ?_ | refine c_block ?_ | refine c_skip ?_ | refine c_ret ?_ | refine x_then_ret ?_ | refine x_block_ret ?_ | refine l_dec_f rfl rfl rfl rfl rfl (by first | omega  | fail) ?_  | fail)
        exact x_ret rfl rfl (by repeat (first | exact Res.nil | (apply Res.tmp; rfl) | (apply Res.cell; rfl; exact (by repeat (first | exact List.Mem.head _ | apply List.Mem.tail)); rfl; rfl))) rfl (fun W hW => ⟨rfl, hW.below⟩)
      repeat (first | refine l_val rfl rfl (by first | exact v_add rfl rfl (by omega) (by omega) | exact pureEval_ok rfl | exact v_load_ext rfl (by assumption) rfl (by rfl) | exact v_index rfl rfl rfl rfl (by omega) (by omega) (by with_reducible first | exact idx4 _ _ _   | fail)  | fail) ?_ | refine l_nil ?_ | refine c_region ?_ | refine c_seq ?_ | refine x_then ?_ | refine c_dec_t rfl (by first | omega  | fail) ?_ | refine c_dec_f rfl (by first | omega  | fail) ?_ | refine c_block ?_ | refine c_skip ?_ | refine x_block ?_ | refine l_dec_f rfl rfl rfl rfl rfl (by first | omega  | fail) ?_  | fail)
      refine x_back (i + 1) ⟨hlt, fun r' hr' => ?_⟩ (by omega) (by repeat (first | exact EnvSub.nil | refine EnvSub.cons rfl (by first | rfl | (congr 1; done) | (exact congrArg (Value.int _) (by omega)) | (simp; done)) ?_)) (by repeat (first | exact MSub.nil | refine MSub.keep (by first | rfl | assumption) ?_ | refine MSub.drop ?_ | exact MSub.refl _))
      rw [List.take_add_one, hr] at hr'
      rcases List.mem_append.1 hr' with h | h
      · exact hI r' h
      · simp only [Option.toList_some, List.mem_singleton] at h
        rw [h]; omega
    have hil : i = rows.length := by omega
    subst hil
    rw [List.take_length] at hI
    have ha : (rows.all fun r => decide (r.l.length ≤ 20 ∧ r.d.length ≤ 20)) = true := List.all_eq_true.2 fun r hr => decide_eq_true (hI r hr)
    rw [ha]
    repeat (first | refine l_val rfl rfl (by first | exact pureEval_ok rfl  | fail) ?_ | refine l_nil ?_ | refine c_region ?_ | refine c_seq ?_ | refine x_then ?_ | refine c_dec_f rfl (by first | omega  | fail) ?_ | refine c_ret ?_ | refine c_exit ?_ | refine x_then_exit ?_ | refine x_block_same ?_  | fail)
    exact x_ret rfl rfl (by repeat (first | exact Res.nil | (apply Res.tmp; rfl) | (apply Res.cell; rfl; exact (by repeat (first | exact List.Mem.head _ | apply List.Mem.tail)); rfl; rfl))) rfl (fun W hW => ⟨rfl, hW.below⟩)
theorem fdB_ok {rows : List DW} (h : fdB rows = true) : rows.length ≤ 5000 ∧ ∀ r ∈ rows, r.l.length ≤ 20 ∧ r.d.length ≤ 20 := by
  unfold fdB at h
  rw [Bool.and_eq_true] at h
  have h1 := of_decide_eq_true h.1
  exact ⟨by omega, fun r hr => of_decide_eq_true (List.all_eq_true.1 h.2 r hr)⟩
end R24
end Go.Proofs

/- Collating: codes and signs; what Table answers. -/
import Derived.Test.YtobiefdkpiognaaClN
import Derived.Test.YtobiefdkpiognaaClTb
import Derived.Test.YtobiefdkpiognaaClE
set_option linter.unusedSectionVars false
set_option linter.unusedVariables false
set_option linter.unusedSimpArgs false
namespace Go.Proofs
open Go.RowKit Go.Kin Go.Kin.Cl
namespace R41
theorem WiOK.later {w w' : World} {x : Wi} (h : WiOK w x) (k : Below w.heap.size w w') : WiOK w' x := ⟨h.at'.later k, h.wf, h.len⟩
/-- what a code says of a sign -/
def bare (s : Sg) : Sg := ⟨0, s.role, 0, 0, s.kind, s.side, s.dir, s.level, s.size, s.wth, 0, 0, 0, 0⟩
theorem okS_bare (s : Sg) : okS (bare s) = okS s := rfl
theorem codeV_bare (s : Sg) : codeV (bare s) = codeV s := rfl
theorem unp_code {s : Sg} (h : okS s = true) : unp (codeV s) = bare s := by
  obtain ⟨h1, h2, h3, h4, h5, h6, h7⟩ := okS_iff.1 h
  obtain ⟨c, hc⟩ : ∃ c, codeV s = c := ⟨_, rfl⟩
  rw [hc]
  unfold codeV at hc
  obtain ⟨c1, e1⟩ : ∃ x, s.role * 16 + s.kind = x := ⟨_, rfl⟩
  rw [e1] at hc
  obtain ⟨c2, e2⟩ : ∃ x, c1 * 4 + s.side = x := ⟨_, rfl⟩
  rw [e2] at hc
  obtain ⟨c3, e3⟩ : ∃ x, c2 * 16 + s.dir = x := ⟨_, rfl⟩
  rw [e3] at hc
  obtain ⟨c4, e4⟩ : ∃ x, c3 * 4 + s.level = x := ⟨_, rfl⟩
  rw [e4] at hc
  obtain ⟨c5, e5⟩ : ∃ x, c4 * 256 + s.size = x := ⟨_, rfl⟩
  rw [e5] at hc
  have d1 : c / 128 = c5 := by omega
  have d2 : c5 / 256 = c4 := by omega
  have d3 : c4 / 4 = c3 := by omega
  have d4 : c3 / 16 = c2 := by omega
  have d5 : c2 / 4 = c1 := by omega
  have d6 : c1 / 16 = s.role := by omega
  have m1 : c % 128 = s.wth := by omega
  have m2 : c5 % 256 = s.size := by omega
  have m3 : c4 % 4 = s.level := by omega
  have m4 : c3 % 16 = s.dir := by omega
  have m5 : c2 % 4 = s.side := by omega
  have m6 : c1 % 16 = s.kind := by omega
  unfold unp bare
  rw [d1, d2, d3, d4, d5, d6, m1, m2, m3, m4, m5, m6]
theorem codeV_bd {s : Sg} (h : okS s = true) : 0 < codeV s ∧ codeV s < 8589934592 := by
  have h' := (okS_bare s).trans h
  have := unp_range (c := codeV s) (by rw [unp_code h]; exact h')
  obtain ⟨h1, h2, h3, h4, h5, h6, h7⟩ := okS_iff.1 h
  refine ⟨?_, this.2⟩
  unfold codeV
  omega
theorem okS_of_form {s : Sg} (h : formB s = true) : okS s = true := by
  have h := of_decide_eq_true h
  exact okS_iff.2 ⟨h.2.1, h.2.2.2.1, h.2.2.2.2.2.1, h.2.2.2.2.2.2.1, h.2.2.2.2.2.2.2.1, h.2.2.2.2.2.2.2.2.1, h.2.2.2.2.2.2.2.2.2.1⟩
theorem cod_in {r : Rd} (h : readB r = true) : isC (cod r) = true ∧ cod r ≠ 0 ∧ 0 ≤ cod r ∧ cod r ≤ 8589934592 := by
  obtain ⟨lost, s⟩ := r
  cases lost with
  | true => rw [cod_t]; exact ⟨by decide, by decide, by decide, by decide⟩
  | false =>
    rw [readB_f, Bool.and_eq_true] at h
    have hok := okS_of_form h.1
    have hb := codeV_bd hok
    rw [cod_f, codA_t hok]
    exact ⟨isC_t (by rw [unp_code hok]; exact hok), by simp only; omega, by simp only; omega, by simp only; omega⟩
theorem allW_mem : ∀ {ws : List Wi} {last : Int}, allW last ws = true → ∀ x ∈ ws, x.rs.all readB = true
  | [], _, _, x, hx => by cases hx
  | y :: l, last, h, x, hx => by
    rw [allW, Bool.and_eq_true] at h
    rcases List.mem_cons.1 hx with rfl | hx
    · have := h.1; unfold witB at this; rw [Bool.and_eq_true] at this; exact this.2
    · exact allW_mem h.2 x hx
theorem cds_in {ws : List Wi} (h : chkW ws = 0) {x : Wi} (hx : x ∈ ws) : (cds x).all isC = true ∧ (∀ c ∈ cds x, c ≠ 0 ∧ -9223372036854775808 ≤ c ∧ c ≤ 9223372036854775807) ∧ (cds x).length ≤ 64 := by
  obtain ⟨h1, h2, h3⟩ := chkW_0 h
  have h4 := List.all_eq_true.1 (allW_mem h3 x hx)
  refine ⟨List.all_eq_true.2 fun c hc => ?_, fun c hc => ?_, by rw [cds_len]; exact h2 x hx⟩
  · obtain ⟨r, hr, rfl⟩ := List.mem_map.1 hc
    exact (cod_in (h4 r hr)).1
  · obtain ⟨r, hr, rfl⟩ := List.mem_map.1 hc
    have := cod_in (h4 r hr)
    exact ⟨this.2.1, by omega, by omega⟩
/-! ## Pair, to a caller that only reads -/
theorem flatP_at (l : List (Int × Int)) : flatP l = (l.map pQ).flatten := rfl
theorem fr_rows {w w' : World} {b : Nat} {sz : Nat} {rows : List (List Value)} {rest : List Value} {T : TypeId} (hb : w.heap.size ≤ b) (hl : ∀ r ∈ rows, r.length = sz) (h : w'.heap[b]? = some (.cells ⟨rows.flatten ++ rest⟩ T (0, 0))) : Fr w w' (some ⟨b, 0, none⟩) sz rows := by
  have hsat : SatW w' (fun _ => False) noJ [(b, .cells ⟨rows.flatten ++ rest⟩ T (0, 0))] w' :=
    ⟨Same.refl _ _, fun _ h => h.elim, by simp, fun p hp => by rw [List.mem_singleton.1 hp]; exact ⟨id, h⟩, closed_noJ, trivial⟩
  exact ⟨hsat.rows (b := b) (rest := rest) (List.mem_singleton.2 rfl) rfl hl, fun a e _ => by cases e; exact hb⟩
theorem pQ_len (l : List (Int × Int)) : ∀ r ∈ l.map pQ, r.length = 2 := fun r hr => by obtain ⟨x, _, rfl⟩ := List.mem_map.1 hr; rfl
/-- what Pair answers -/
def parA (a b : List Int) : Int × List (Int × Int) × Int := if prR a b = 0 then (ac a b, pairL a b, 0) else (0, [], prR a b)
def v3 (c : Int) (A : Option Addr) (n cap : Nat) (e : Int) : Value := .tuple ⟨[.int .i64 c, .slice A n cap, .int .i64 e]⟩
theorem PairQ.fr {a b : List Int} {w w' : World} {e : Ending} (h : PairQ a b w e w') : ∃ A cap, e = .returned (v3 (parA a b).1 A (parA a b).2.1.length cap (parA a b).2.2) ∧ Below w.heap.size w w' ∧ Fr w w' A 2 ((parA a b).2.1.map pQ) := by
  obtain ⟨h1, ⟨h2, h3⟩ | ⟨h2, h3, h4⟩ | ⟨h2, h3, bp, cap, rest, h4, h5, h6⟩⟩ := h
  · have hp : parA a b = (0, [], prR a b) := if_neg h2
    rw [hp]
    exact ⟨none, 0, h3, h1, Fr.nil⟩
  · have hp : parA a b = (ac a b, [], 0) := by unfold parA; rw [if_pos h2, h3]
    rw [hp]
    exact ⟨none, 0, h4, h1, Fr.nil⟩
  · have hp : parA a b = (ac a b, pairL a b, 0) := if_pos h2
    rw [hp]
    exact ⟨_, cap, h4, h1, fr_rows h5 (pQ_len _) h6⟩
/-! ## What Table answers -/
/-- a row of a table, and where it lies -/
structure RV where
  A : Option Addr
  cap : Nat
  l : List Int
@[reducible] def rvE (v : RV) : List Value := [.slice v.A v.l.length v.cap]
def lsW (ws : List Wi) : List (List Int) := ws.map cds
def tabE (ws : List Wi) : Int := if chkW ws = 0 then (if ws = [] then 0 else if 256 < lociN (lsW ws) then 2 else 0) else chkW ws
def tabR (ws : List Wi) : List (List Int) := if chkW ws = 0 ∧ ws ≠ [] ∧ lociN (lsW ws) ≤ 256 then (List.range ws.length).map (rowI (lsW ws)) else []
structure RowsF (w w' : World) (A : Option Addr) (rows : List RV) : Prop where
  top : Fr w w' A 1 (rows.map rvE)
  row : ∀ v ∈ rows, Fr w w' v.A 1 (v.l.map inE)
def TabQ (ws : List Wi) (w : World) (e : Ending) (w' : World) : Prop :=
  ∃ A cap rows, e = .returned (.tuple ⟨[.slice A (List.length rows) cap, .int .i64 (tabE ws)]⟩) ∧ Below w.heap.size w w' ∧ rows.map RV.l = tabR ws ∧ RowsF w w' A rows
theorem rowsF_nil {w w' : World} {A : Option Addr} : RowsF w w' A [] := ⟨Fr.nil, fun v hv => by cases hv⟩
theorem tab_bad {ws : List Wi} (h : chkW ws ≠ 0) : tabE ws = chkW ws ∧ tabR ws = [] := ⟨if_neg h, if_neg fun g => h g.1⟩
theorem tab_nil : tabE [] = 0 ∧ tabR [] = [] := by
  have h : chkW [] = 0 := by unfold chkW; simp [allW]
  exact ⟨by unfold tabE; rw [if_pos h, if_pos rfl], if_neg fun g => g.2.1 rfl⟩
theorem tab_wide {ws : List Wi} (h : chkW ws = 0) (h2 : ws ≠ []) (h3 : 256 < lociN (lsW ws)) : tabE ws = 2 ∧ tabR ws = [] :=
  ⟨by unfold tabE; rw [if_pos h, if_neg h2, if_pos h3], if_neg fun g => by have := g.2.2; omega⟩
theorem tab_ok {ws : List Wi} (h : chkW ws = 0) (h2 : ws ≠ []) (h3 : lociN (lsW ws) ≤ 256) : tabE ws = 0 ∧ tabR ws = (List.range ws.length).map (rowI (lsW ws)) :=
  ⟨by unfold tabE; rw [if_pos h, if_neg h2, if_neg (by omega)], if_pos ⟨h, h2, h3⟩⟩
theorem li_lsW {ws : List Wi} {i : Nat} {x : Wi} (h : ws[i]? = some x) : li (lsW ws) i = cds x := by unfold li lsW; rw [List.getD_eq_getElem?_getD, List.getElem?_map, h]; rfl
theorem li_out {ws : List Wi} {i : Nat} (h : ws[i]? = none) : li (lsW ws) i = [] := by unfold li lsW; rw [List.getD_eq_getElem?_getD, List.getElem?_map, h]; rfl
theorem short_lsW {ws : List Wi} (h : chkW ws = 0) : Short (lsW ws) := fun i => by
  cases hx : ws[i]? with
  | none => rw [li_out hx]; exact Nat.zero_le _
  | some x => rw [li_lsW hx]; exact (cds_in h (List.mem_of_getElem? hx)).2.2
theorem parA_ok {a b : List Int} (ha : a.length ≤ 64) (hb : b.length ≤ 64) (ca : a.all isC = true) (cb : b.all isC = true) : parA a b = (ac a b, pairL a b, 0) := by
  have : prR a b = 0 := by unfold prR; rw [if_neg (by omega), if_pos ⟨ca, cb⟩]
  exact if_pos this
theorem pairL_prs (a b : List Int) : pairL a b = prs (best a b) 0 0 := rfl
end R41
end Go.Proofs

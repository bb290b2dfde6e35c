/- Collating: codes and signs; what Table answers. -/
import Derived.Test.YtdegengehbdelaaGreatDoorClN
import Derived.Test.YtdegengehbdelaaGreatDoorClE0
import Derived.Test.YtdegengehbdelaaGreatDoorClE
import Derived.Test.YtdegengehbdelaaGreatDoorRtNum
set_option linter.unusedSectionVars false
set_option linter.unusedVariables false
set_option linter.unusedSimpArgs false
namespace Go.Proofs
open Go.RowKit Go.Kin Go.Kin.Cl
namespace R41
theorem WiOK.later {w w' : World} {x : Wi} (h : WiOK w x) (k : Below w.heap.size w w') : WiOK w' x := ⟨h.at'.later k, h.wf, h.len⟩
/-- what a code says of a sign -/
def bare (s : Sg) : Sg := ⟨0, s.role, 0, 0, s.kind, s.side, s.dir, s.level, s.size, s.wth, 0, 0, 0, 0⟩
theorem okS_bare (s : Sg) : okS (bare s) = okS s := rfl
theorem unp_code {s : Sg} (h : okS s = true) : unp (codeV s) = bare s := by
 obtain ⟨h1, h2, h3, h4, h5, h6, h7⟩ := okS_iff.1 h
 obtain ⟨c, hc⟩ : ∃ c, codeV s = c := ⟨_, rfl⟩
 rw [hc]
 unfold codeV at hc
 obtain ⟨c1, e1⟩ : ∃ x, s.role * 16 + s.kind = x := ⟨_, rfl⟩
 rw [e1] at hc
 obtain ⟨c2, e2⟩ : ∃ x, c1 * 4 + s.side = x := ⟨_, rfl⟩
 rw [e2] at hc
 obtain ⟨c3, e3⟩ : ∃ x, c2 * 16 + s.dir = x := ⟨_, rfl⟩
 rw [e3] at hc
 obtain ⟨c4, e4⟩ : ∃ x, c3 * 4 + s.level = x := ⟨_, rfl⟩
 rw [e4] at hc
 obtain ⟨c5, e5⟩ : ∃ x, c4 * 256 + s.size = x := ⟨_, rfl⟩
 rw [e5] at hc
 have d1 : c / 128 = c5 := by omega
 have d2 : c5 / 256 = c4 := by omega
 have d3 : c4 / 4 = c3 := by omega
 have d4 : c3 / 16 = c2 := by omega
 have d5 : c2 / 4 = c1 := by omega
 have d6 : c1 / 16 = s.role := by omega
 have m1 : c % 128 = s.wth := by omega
 have m2 : c5 % 256 = s.size := by omega
 have m3 : c4 % 4 = s.level := by omega
 have m4 : c3 % 16 = s.dir := by omega
 have m5 : c2 % 4 = s.side := by omega
 have m6 : c1 % 16 = s.kind := by omega
 unfold unp bare
 rw [d1, d2, d3, d4, d5, d6, m1, m2, m3, m4, m5, m6]
theorem codeV_bd {s : Sg} (h : okS s = true) : 0 < codeV s /\ codeV s < 8589934592 := by
 have h' := (okS_bare s).trans h
 have := unp_range (c := codeV s) (by rw [unp_code h]; exact h')
 obtain ⟨h1, h2, h3, h4, h5, h6, h7⟩ := okS_iff.1 h
 refine ⟨?_, this.2⟩
 unfold codeV
 omega
theorem okS_of_form {s : Sg} (h : formB s = true) : okS s = true := by
 have h := of_decide_eq_true h
 exact okS_iff.2 ⟨h.2.1, h.2.2.2.1, h.2.2.2.2.2.1, h.2.2.2.2.2.2.1, h.2.2.2.2.2.2.2.1, h.2.2.2.2.2.2.2.2.1, h.2.2.2.2.2.2.2.2.2.1⟩
theorem cod_in {r : Rd} (h : readB r = true) : isC (cod r) = true /\ cod r ≠ 0 /\ 0 <= cod r /\ cod r <= 8589934592 := by
 obtain ⟨lost, s⟩ := r
 cases lost with
 | true => rw [cod_t]; exact ⟨by decide, by decide, by decide, by decide⟩
 | false =>
  rw [readB_f, Bool.and_eq_true] at h
  have hok := okS_of_form h.1
  have hb := codeV_bd hok
  rw [cod_f, codA_t hok]
  exact ⟨isC_t (by rw [unp_code hok]; exact hok), by simp only; omega, by simp only; omega, by simp only; omega⟩
theorem allW_mem : ∀ {ws : List Wi} {last : Int}, allW last ws = true -> ∀ x ∈ ws, x.rs.all readB = true
 | [], _, _, x, hx => by cases hx
 | y :: l, last, h, x, hx => by
  rw [allW, Bool.and_eq_true] at h
  rcases List.mem_cons.1 hx with rfl | hx
  ·have := h.1; unfold witB at this; rw [Bool.and_eq_true] at this; exact this.2
  ·exact allW_mem h.2 x hx
theorem cds_in {ws : List Wi} (h : chkW ws = 0) {x : Wi} (hx : x ∈ ws) : (cds x).all isC = true /\ (∀ c ∈ cds x, c ≠ 0 /\ -9223372036854775808 <= c /\ c <= 9223372036854775807) /\ (cds x).length <= 64 := by
 obtain ⟨h1, h2, h3⟩ := chkW_0 h
 have h4 := List.all_eq_true.1 (allW_mem h3 x hx)
 refine ⟨List.all_eq_true.2 fun c hc => ?_, fun c hc => ?_, by rw [cds_len]; exact h2 x hx⟩
 ·obtain ⟨r, hr, rfl⟩ := List.mem_map.1 hc
  exact (cod_in (h4 r hr)).1
 ·obtain ⟨r, hr, rfl⟩ := List.mem_map.1 hc
  have := cod_in (h4 r hr)
  exact ⟨this.2.1, by omega, by omega⟩
/-! ## Pair, to a caller that only reads -/
theorem fr_rows {w w' : World} {b : Nat} {sz : Nat} {rows : List (List Value)} {rest : List Value} {T : TypeId} (hb : w.heap.size <= b) (hl : ∀ r ∈ rows, r.length = sz) (h : w'.heap[b]? = some (.cells ⟨rows.flatten ++ rest⟩ T (0, 0))) : Fr w w' (some ⟨b, 0, none⟩) sz rows := by
 have hsat : SatW w' (fun _ => False) noJ [(b, .cells ⟨rows.flatten ++ rest⟩ T (0, 0))] w' :=
  ⟨Same.refl _ _, fun _ h => h.elim, by simp, fun p hp => by rw [List.mem_singleton.1 hp]; exact ⟨id, h⟩, closed_noJ, trivial⟩
 exact ⟨hsat.rows (b := b) (rest := rest) (List.mem_singleton.2 rfl) rfl hl, fun a e _ => by cases e; exact hb⟩
theorem pQ_len (l : List (Int × Int)) : ∀ r ∈ l.map pQ, r.length = 2 := fun r hr => by obtain ⟨x, _, rfl⟩ := List.mem_map.1 hr; rfl
/-- what Pair answers -/
def parA (a b : List Int) : Int × List (Int × Int) × Int := if prR a b = 0 then (ac a b, pairL a b, 0) else (0, [], prR a b)
def v3 (c : Int) (A : Option Addr) (n cap : Nat) (e : Int) : Value := .tuple ⟨[.int .i64 c, .slice A n cap, .int .i64 e]⟩
theorem PairQ.fr {a b : List Int} {w w' : World} {e : Ending} (h : PairQ a b w e w') : ∃ A cap, e = .returned (v3 (parA a b).1 A (parA a b).2.1.length cap (parA a b).2.2) /\ Below w.heap.size w w' /\ Fr w w' A 2 ((parA a b).2.1.map pQ) := by
 obtain ⟨h1, ⟨h2, h3⟩ | ⟨h2, h3, h4⟩ | ⟨h2, h3, bp, cap, rest, h4, h5, h6⟩⟩ := h
 ·have hp : parA a b = (0, [], prR a b) := if_neg h2
  rw [hp]
  exact ⟨none, 0, h3, h1, Fr.nil⟩
 ·have hp : parA a b = (ac a b, [], 0) := by unfold parA; rw [if_pos h2, h3]
  rw [hp]
  exact ⟨none, 0, h4, h1, Fr.nil⟩
 ·have hp : parA a b = (ac a b, pairL a b, 0) := if_pos h2
  rw [hp]
  exact ⟨_, cap, h4, h1, fr_rows h5 (pQ_len _) h6⟩
/-! ## What Table answers -/
/-- a row of a table, and where it lies -/
structure RV where
 A : Option Addr
 cap : Nat
 l : List Int
@[reducible] def rvE (v : RV) : List Value := [.slice v.A v.l.length v.cap]
def lsW (ws : List Wi) : List (List Int) := ws.map cds
def tabE (ws : List Wi) : Int := if chkW ws = 0 then (if ws = [] then 0 else if 256 < lociN (lsW ws) then 2 else 0) else chkW ws
def tabR (ws : List Wi) : List (List Int) := if chkW ws = 0 /\ ws ≠ [] /\ lociN (lsW ws) <= 256 then (List.range ws.length).map (rowI (lsW ws)) else []
structure RowsF (w w' : World) (A : Option Addr) (rows : List RV) : Prop where
 top : Fr w w' A 1 (rows.map rvE)
 row : ∀ v ∈ rows, Fr w w' v.A 1 (v.l.map inE)
def TabQ (ws : List Wi) (w : World) (e : Ending) (w' : World) : Prop :=
 ∃ A cap rows, e = .returned (.tuple ⟨[.slice A (List.length rows) cap, .int .i64 (tabE ws)]⟩) /\ Below w.heap.size w w' /\ rows.map RV.l = tabR ws /\ RowsF w w' A rows
theorem rowsF_nil {w w' : World} {A : Option Addr} : RowsF w w' A [] := ⟨Fr.nil, fun v hv => by cases hv⟩
theorem tab_bad {ws : List Wi} (h : chkW ws ≠ 0) : tabE ws = chkW ws /\ tabR ws = [] := ⟨if_neg h, if_neg fun g => h g.1⟩
theorem tab_nil : tabE [] = 0 /\ tabR [] = [] := by
 have h : chkW [] = 0 := by unfold chkW; simp [allW]
 exact ⟨by unfold tabE; rw [if_pos h, if_pos rfl], if_neg fun g => g.2.1 rfl⟩
theorem tab_wide {ws : List Wi} (h : chkW ws = 0) (h2 : ws ≠ []) (h3 : 256 < lociN (lsW ws)) : tabE ws = 2 /\ tabR ws = [] :=
 ⟨by unfold tabE; rw [if_pos h, if_neg h2, if_pos h3], if_neg fun g => by have := g.2.2; omega⟩
theorem tab_ok {ws : List Wi} (h : chkW ws = 0) (h2 : ws ≠ []) (h3 : lociN (lsW ws) <= 256) : tabE ws = 0 /\ tabR ws = (List.range ws.length).map (rowI (lsW ws)) :=
 ⟨by unfold tabE; rw [if_pos h, if_neg h2, if_neg (by omega)], if_pos ⟨h, h2, h3⟩⟩
theorem li_lsW {ws : List Wi} {i : Nat} {x : Wi} (h : ws[i]? = some x) : li (lsW ws) i = cds x := by unfold li lsW; rw [List.getD_eq_getElem?_getD, List.getElem?_map, h]; rfl
theorem li_out {ws : List Wi} {i : Nat} (h : ws[i]? = none) : li (lsW ws) i = [] := by unfold li lsW; rw [List.getD_eq_getElem?_getD, List.getElem?_map, h]; rfl
theorem short_lsW {ws : List Wi} (h : chkW ws = 0) : Short (lsW ws) := fun i => by
 cases hx : ws[i]? with
 | none => rw [li_out hx]; exact Nat.zero_le _
 | some x => rw [li_lsW hx]; exact (cds_in h (List.mem_of_getElem? hx)).2.2
theorem parA_ok {a b : List Int} (ha : a.length <= 64) (hb : b.length <= 64) (ca : a.all isC = true) (cb : b.all isC = true) : parA a b = (ac a b, pairL a b, 0) := by
 have : prR a b = 0 := by unfold prR; rw [if_neg (by omega), if_pos ⟨ca, cb⟩]
 exact if_pos this
end R41
end Go.Proofs

set_option maxRecDepth 100000
set_option maxHeartbeats 400000000
namespace Go.Proofs
open Go.RowKit Go.Kin Go.Kin.Se Go.Kin.Cl
namespace R41
/-- where the closure's variables lie -/
structure BC where
 b3 : Nat
 b5 : Nat
 b7 : Nat
 b4 : Nat
 b10 : Nat
 bc : Nat
 j : Nat
 Ar : Option Addr
 capr : Nat
 Ac : Option Addr
 capc : Nat
 rows : List RV
 cl : List Nat
 S : List Int
def ptrV (b : Nat) : Value := .pointer (some ⟨b, 0, none⟩)
def BC.env (E : BC) : List Value := [ptrV E.b3, ptrV E.b5, ptrV E.b7, ptrV E.b4, ptrV E.b10]
def ownR (rows : List RV) (j i : Nat) : Int := ((rows.map RV.l).getD i []).getD j lost
def BC.own (E : BC) : Nat -> Int := ownR E.rows E.j
def zerosL (S : List Int) : List (Int × Value) := S.map fun s => (s, .int .i64 0)
structure BEnv (E : BC) (w : World) : Prop where
 h3 : w.cell? ⟨E.b3, 0, none⟩ = some (.slice E.Ar E.rows.length E.capr)
 h5 : w.cell? ⟨E.b5, 0, none⟩ = some (.int .i64 E.j)
 h7 : w.cell? ⟨E.b7, 0, none⟩ = some (.map (some E.bc))
 h4 : w.cell? ⟨E.b4, 0, none⟩ = some (.slice E.Ac E.cl.length E.capc)
 h10 : w.cell? ⟨E.b10, 0, none⟩ = some (.func (.func 68) ⟨[]⟩ ⟨E.env⟩)
 hc : w.heap[E.bc]? = some (imO (zerosL E.S))
 ar : Kin.At w E.Ar 1 (E.rows.map rvE)
 row : ∀ v ∈ E.rows, Kin.At w v.A 1 (v.l.map inE)
 ac : Kin.At w E.Ac 1 (E.cl.map nE)
 gl : Glob w
theorem BEnv.later {E : BC} {w w' : World} (h : BEnv E w) (k : Below w.heap.size w w') : BEnv E w' :=
 ⟨(k.cell (lt_of_cell h.h3)).trans h.h3, (k.cell (lt_of_cell h.h5)).trans h.h5, (k.cell (lt_of_cell h.h7)).trans h.h7, (k.cell (lt_of_cell h.h4)).trans h.h4, (k.cell (lt_of_cell h.h10)).trans h.h10, (k.block _ (lt_of_heap h.hc)).trans h.hc, h.ar.later k, fun v hv => (h.row v hv).later k, h.ac.later k, h.gl.later k⟩
/-- what the sizes are -/
structure BOK (E : BC) : Prop where
 n5 : E.rows.length <= 5
 jlt : ∀ v ∈ E.rows, E.j < v.l.length
 j3 : E.j < 1000
 len : ∀ v ∈ E.rows, v.l.length <= 1000
 cll : E.cl.length <= 1000
 nd : E.S.Nodup
 sl : E.S.length <= 100
/-- a map says what lies below a tree -/
def iv (c : Nat) : Value := .int .i64 c
structure MpB (E : BC) (t : Tr) (l : List (Int × Value)) : Prop where
 ok : imOK l
 get : ∀ q, imGet l q = if q ∈ E.S then (bel E.S E.own t q).map iv else none
def MpQ (E : BC) (t : Tr) (w : World) (e : Ending) (w' : World) : Prop := ∃ b l, e = .returned (.map (some b)) /\ Below w.heap.size w w' /\ w.heap.size <= b /\ w'.heap[b]? = some (imO l) /\ MpB E t l
/-- the entries that have come -/
def lfL (E : BC) (i : Nat) (seen : List Nat) : List (Int × Value) := seen.filterMap fun q => (E.S[q]?).bind fun s => if E.own i = s ∨ E.own i = lost then some (s, iv 0) else none
theorem lfL_mem {E : BC} {i : Nat} {seen : List Nat} {p : Int × Value} : p ∈ lfL E i seen ↔ ∃ q ∈ seen, ∃ s, E.S[q]? = some s /\ (E.own i = s ∨ E.own i = lost) /\ p = (s, iv 0) := by
 unfold lfL
 rw [List.mem_filterMap]
 constructor
 ·rintro ⟨q, hq, h⟩
  obtain ⟨s, hs, h2⟩ := Option.bind_eq_some_iff.1 h
  split at h2
  ·rename_i hc; exact ⟨q, hq, s, hs, hc, (Option.some.inj h2).symm⟩
  ·cases h2
 ·rintro ⟨q, hq, s, hs, hc, rfl⟩
  exact ⟨q, hq, by rw [hs]; exact if_pos hc⟩
theorem nd_get {S : List Int} (h : S.Nodup) {q r : Nat} {s : Int} (h1 : S[q]? = some s) (h2 : S[r]? = some s) : q = r := by
 obtain ⟨l1, e1⟩ := List.getElem?_eq_some_iff.1 h1
 obtain ⟨l2, e2⟩ := List.getElem?_eq_some_iff.1 h2
 exact (List.getElem_inj h).1 (e1.trans e2.symm)
theorem lfL_new {E : BC} (h : E.S.Nodup) {i : Nat} {seen : List Nat} {q : Nat} {s : Int} (hq : q ∉ seen) (hs : E.S[q]? = some s) : imGet (lfL E i seen) s = none := imGet_none.2 fun p hp e => by
 obtain ⟨r, hr, s', hs', _, rfl⟩ := lfL_mem.1 hp
 have e : s' = s := e
 subst e
 exact hq (nd_get h hs hs' ▸ hr)
theorem lfL_snoc {E : BC} {i : Nat} {seen : List Nat} {q : Nat} {s : Int} (hs : E.S[q]? = some s) : lfL E i (seen ++ [q]) = lfL E i seen ++ if E.own i = s ∨ E.own i = lost then [(s, iv 0)] else [] := by
 unfold lfL
 rw [List.filterMap_append]
 congr 1
 simp only [List.filterMap_cons, hs, Option.bind_some, List.filterMap_nil]
 split <;> simp_all
theorem lfL_ok {E : BC} (h : E.S.Nodup) {i : Nat} : ∀ {seen : List Nat}, seen.Nodup -> (∀ q ∈ seen, q < E.S.length) -> imOK (lfL E i seen) := by
 intro seen hn hl
 induction seen with
 | nil => exact List.nodup_nil
 | cons q seen ih =>
  rw [List.nodup_cons] at hn
  have hq := hl q List.mem_cons_self
  have ih := ih hn.2 fun r hr => hl r (List.mem_cons_of_mem _ hr)
  have hc : lfL E i (q :: seen) = (if E.own i = E.S[q] ∨ E.own i = lost then [(E.S[q], iv 0)] else []) ++ lfL E i seen := by
   unfold lfL
   rw [List.filterMap_cons]
   simp only [List.getElem?_eq_getElem hq, Option.bind_some]
   split <;> split <;> simp_all
  rw [hc]
  split
  ·unfold imOK
   rw [List.map_append, List.map_cons, List.map_nil, List.singleton_append, List.nodup_cons]
   refine ⟨fun hm => ?_, ih⟩
   obtain ⟨p, hp, e⟩ := List.mem_map.1 hm
   exact imGet_none.1 (lfL_new h hn.1 (List.getElem?_eq_getElem hq)) p hp e
  ·exact ih
theorem lfL_end {E : BC} (h : E.S.Nodup) {i : Nat} {seen : List Nat} (hn : seen.Nodup) (hl : ∀ q ∈ seen, q < E.S.length) (ha : ∀ q, q < E.S.length -> q ∈ seen) : MpB E (.lf i) (lfL E i seen) := by
 have hok := lfL_ok h (i := i) hn hl
 refine ⟨hok, fun q => ?_⟩
 show _ = if q ∈ E.S then (if E.own i = q ∨ E.own i = lost then some 0 else none).map iv else none
 by_cases hq : q ∈ E.S
 ·rw [if_pos hq]
  obtain ⟨k, hk, rfl⟩ := List.mem_iff_getElem.1 hq
  by_cases hc : E.own i = E.S[k] ∨ E.own i = lost
  ·rw [if_pos hc]
   have hm : (E.S[k], iv 0) ∈ lfL E i seen := lfL_mem.2 ⟨k, ha k hk, _, List.getElem?_eq_getElem hk, hc, rfl⟩
   obtain ⟨j, hj⟩ := List.getElem?_of_mem hm
   exact imGet_at hok hj
  ·rw [if_neg hc]
   refine imGet_none.2 fun p hp e => ?_
   obtain ⟨r, _, s, _, hs2, rfl⟩ := lfL_mem.1 hp
   have e : s = E.S[k] := e
   exact hc (e ▸ hs2)
 ·rw [if_neg hq]
  refine imGet_none.2 fun p hp e => ?_
  obtain ⟨r, _, s, hs, _, rfl⟩ := lfL_mem.1 hp
  have e : s = q := e
  exact hq (e ▸ List.mem_of_getElem? hs)
theorem zerosL_len (S : List Int) : (zerosL S).length = S.length := List.length_map ..
theorem zerosL_get {S : List Int} {q : Nat} {s : Int} (h : S[q]? = some s) : (zerosL S)[q]? = some (s, .int .i64 0) := by unfold zerosL; rw [List.getElem?_map, h]; rfl
theorem ownR_get {rows : List RV} {j i : Nat} {v : RV} {s : Int} (h : rows[i]? = some v) (h2 : v.l[j]? = some s) : ownR rows j i = s := by
 have e : (rows.map RV.l).getD i [] = v.l := by rw [List.getD_eq_getElem?_getD, List.getElem?_map, h]; rfl
 unfold ownR
 rw [e, List.getD_eq_getElem?_getD, h2]; rfl
theorem leaf_calls (E : BC) (hE : BOK E) (i : Nat) (w : World) (hB : BEnv E w) (hi : i < E.rows.length) (hs : singleB (2 ^ i) = true) : Calls Tryz.prog 68 ⟨.int .i64 ((2 ^ i : Nat) : Int) :: E.env⟩ w (MpQ E (.lf i) w) := by
 have h5 := hE.n5
 obtain ⟨v, hv⟩ : ∃ v, E.rows[i]? = some v := ⟨_, List.getElem?_eq_getElem hi⟩
 have hvm := List.mem_of_getElem? hv
 obtain ⟨s, hsj⟩ : ∃ s, v.l[E.j]? = some s := ⟨_, List.getElem?_eq_getElem (hE.jlt v hvm)⟩
 have hjl := hE.jlt v hvm
 have hlen := hE.len v hvm
 have hown : E.own i = s := ownR_get hv hsj
 obtain ⟨br, or_, hAr, hcr⟩ := hB.ar i (rvE v) (by rw [List.getElem?_map, hv]; rfl)
 obtain ⟨bv, ov, hAv, hcv⟩ := hB.row v hvm E.j (inE s) (by rw [List.getElem?_map, hsj]; rfl)
 have x3 := ext1o hB.h3
 have x5 := ext1o hB.h5
 have x7 := ext1o hB.h7
 have xr := ext_of hcr
 have xv := ext_of hcv
 rw [Nat.mul_one] at xr xv
 rw [hAr] at x3
 rw [hAv] at xr
 have hm : 0 < 2 ^ i /\ 2 ^ i <= 16 := tz_sm i (by omega)
 have htz := fun W (hW : Below w.heap.size w W) => tz_calls i (by omega) W (hB.gl.later hW)
 have hsg := fun W => single_calls (2 ^ i) W (by omega)
 obtain ⟨m, hme⟩ : ∃ m, 2 ^ i = m := ⟨_, rfl⟩
 rw [hme] at hs htz hsg hm ⊢
 rw [hs] at hsg
 unfold BC.env ptrV
 refine fEn Tryz.func68 rfl Tryz.ntmps68 rfl rfl (sWn w) ?_
 repeat (first|refine lVa rfl rfl (by first|exact pEv rfl|fail) ?_|refine lNi ?_|refine cRg ?_|refine cSq ?_|refine xTh ?_|refine r_makeMap rfl rfl (fun _ => ?_)|fail)
 rename_i bo
 have hcD : base w E.bc := lt_of_heap hB.hc
 refine r_call rfl rfl rfl (fun W _ => hsg W) ?_
 repeat (first|refine lNi ?_|refine cSq ?_|refine xTh ?_|refine c_true rfl ?_|refine c_reads rfl (by decide +kernel) ?_|refine q_val rfl rfl (by first|exact v_uconv rfl rfl rfl (by omega)|exact pEv rfl|exact vL0 rfl (by assumption) rfl (by rfl)|fail) ?_|fail)
 refine q_call rfl rfl rfl (fun W hW => htz W hW.below) ?_
 repeat (first|refine lVa rfl rfl (by first|exact vL0 rfl (by assumption) rfl (by rfl)|fail) ?_|refine cRg ?_|refine cSq ?_|refine xTh ?_|refine q_val rfl rfl (by first|exact pEv rfl|exact vL0 rfl (by assumption) rfl (by rfl)|exact v_index rfl rfl rfl rfl (by omega) (by omega) (by with_reducible first|exact idx2 _ _|fail)|fail) ?_|refine q_nil ?_|fail)
 refine l_imRangeG rfl rfl rfl rfl (.far hcD hB.hc) (fun br => ?_)
 repeat (first|refine lNi ?_|refine xTh ?_|refine cBl ?_|fail)
 refine c_loop (ι := List Nat) (fun seen => seen.Nodup /\ ∀ q ∈ seen, q < E.S.length) (fun _ => [(8, .map (some bo)), (9, .int .i64 s), (33, .pointer (some ⟨br, 0, none⟩))])
  (fun seen => [(br, itO E.bc (zerosL E.S).length seen), (bo, imO (lfL E i seen))]) (fun seen => E.S.length - seen.length) [] ⟨List.nodup_nil, fun q hq => by cases hq⟩ (by repeat (first|exact .nil|refine .cons rfl (by first|rfl|(congr 1; done)|exact congrArg _ (by omega)|(simp; done)) ?_)) (by repeat (first|exact .nil|refine .keep (by first|rfl|assumption) ?_|refine .drop ?_|exact MSub.refl _)) ?_
 rintro seen ⟨h1, h2⟩
 repeat (first|refine cRg ?_|refine cSq ?_|fail)
 refine l_imNextG rfl rfl rfl (.far hcD hB.hc) (fun _ => (by repeat constructor)) ?_
 rintro ⟨o, ho⟩
 cases o with
 | none =>
  have hall : ∀ j, j < (zerosL E.S).length -> j ∈ seen := ho
  rw [zerosL_len] at hall
  simp only [nxV, nxS]
  repeat (first|refine lVa rfl rfl (by first|exact pEv rfl|fail) ?_|refine lNi ?_|refine cRg ?_|refine cSq ?_|refine xTh ?_|refine c_false rfl ?_|refine c_ret ?_|refine c_exit ?_|refine xTr ?_|refine xTe ?_|refine xBs ?_|fail)
  exact x_ret rfl rfl (by repeat constructor) rfl (fun W hW => ⟨bo, lfL E i seen, rfl, hW.below, Nat.le_of_not_lt (hW.own (bo, _) (by repeat constructor)).1, (hW.own (bo, _) (by repeat constructor)).2, lfL_end hE.nd h1 h2 hall⟩)
 | some q =>
  obtain ⟨hq1, hq2⟩ : q < (zerosL E.S).length /\ ¬ q ∈ seen := ho
  rw [zerosL_len] at hq1
  obtain ⟨sq, hsq⟩ : ∃ sq, E.S[q]? = some sq := ⟨_, List.getElem?_eq_getElem hq1⟩
  have hsn := lfL_snoc (E := E) (i := i) (seen := seen) hsq
  rw [hown] at hsn
  have hnew := lfL_new hE.nd (i := i) hq2 hsq
  have hput := imPut_new (v := iv 0) hnew
  have hI : (seen ++ [q]).Nodup /\ ∀ r ∈ seen ++ [q], r < E.S.length := ⟨List.nodup_append.2 ⟨h1, by simp, fun a ha b hb e => hq2 (by rw [List.mem_singleton.1 hb] at e; exact e ▸ ha)⟩, fun r hr => by
   rcases List.mem_append.1 hr with h | h
   ·exact h2 r h
   ·rw [List.mem_singleton.1 h]; exact hq1⟩
  have hmu : E.S.length - (seen ++ [q]).length < E.S.length - seen.length := by
   have : seen.length < E.S.length := by
    have hs1 : (List.range E.S.length).length = E.S.length := List.length_range
    have := hI.1.length_le_of_subset (l₂ := List.range E.S.length) (fun r hr => List.mem_range.2 (hI.2 r hr))
    rw [List.length_append, hs1, List.length_singleton] at this
    omega
   rw [List.length_append, List.length_singleton]; omega
  simp only [nxV, nxS]
  repeat (first|refine lVa rfl rfl (by first|exact pEv rfl|fail) ?_|refine lNi ?_|refine cRg ?_|refine cSq ?_|refine xTh ?_|refine c_true rfl ?_|refine cBl ?_|refine cSk ?_|fail)
  refine lVa rfl rfl (v_imEntryG rfl (.far hcD hB.hc) (by repeat constructor) (zerosL_get hsq)) ?_
  by_cases hc1 : s = sq
  ·rw [if_pos (.inl hc1), <- hput] at hsn
   repeat (first|refine l_do rfl (d_imPut (k := sq) (v := iv 0) rfl rfl rfl rfl rfl (by repeat constructor)) ?_|refine lVa rfl rfl (by first|exact pEv rfl|fail) ?_|refine lNi ?_|refine cRg ?_|refine cSq ?_|refine xTh ?_|refine l_skip rfl rfl ?_|refine c_true rfl ?_|refine x_block ?_|refine l_dec_t rfl rfl rfl rfl rfl (by first|omega|fail) ?_|fail)
   rw [<- hsn]
   exact x_back (seen ++ [q]) hI hmu (by repeat (first|exact .nil|refine .cons rfl (by first|rfl|(congr 1; done)|exact congrArg _ (by omega)|(simp; done)) ?_)) (by repeat (first|exact .nil|refine .keep (by first|rfl|assumption) ?_|refine .drop ?_|exact MSub.refl _))
  ·by_cases hc2 : s = 8589934592
   ·rw [if_pos (.inr hc2), <- hput] at hsn
    repeat (first|refine l_do rfl (d_imPut (k := sq) (v := iv 0) rfl rfl rfl rfl rfl (by repeat constructor)) ?_|refine lVa rfl rfl (by first|exact pEv rfl|fail) ?_|refine lNi ?_|refine cRg ?_|refine cSq ?_|refine xTh ?_|refine c_dec_t rfl (by first|omega|fail) ?_|refine x_block ?_|refine l_dec_f rfl rfl rfl rfl rfl (by first|omega|fail) ?_|fail)
    rw [<- hsn]
    exact x_back (seen ++ [q]) hI hmu (by repeat (first|exact .nil|refine .cons rfl (by first|rfl|(congr 1; done)|exact congrArg _ (by omega)|(simp; done)) ?_)) (by repeat (first|exact .nil|refine .keep (by first|rfl|assumption) ?_|refine .drop ?_|exact MSub.refl _))
   ·rw [if_neg (fun h => h.elim hc1 hc2), List.append_nil] at hsn
    repeat (first|refine lVa rfl rfl (by first|exact pEv rfl|fail) ?_|refine lNi ?_|refine cRg ?_|refine cSq ?_|refine xTh ?_|refine c_dec_f rfl (by first|omega|fail) ?_|refine cSk ?_|refine x_block ?_|refine l_dec_f rfl rfl rfl rfl rfl (by first|omega|fail) ?_|fail)
    rw [<- hsn]
    exact x_back (seen ++ [q]) hI hmu (by repeat (first|exact .nil|refine .cons rfl (by first|rfl|(congr 1; done)|exact congrArg _ (by omega)|(simp; done)) ?_)) (by repeat (first|exact .nil|refine .keep (by first|rfl|assumption) ?_|refine .drop ?_|exact MSub.refl _))
end R41
end Go.Proofs

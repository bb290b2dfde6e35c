/- Editions: what the states at the root cost, as the program reckons it; sorted lists without what is twice. Plain Lean. -/
import Derived.Test.YtdegengehbdelaaGreatDoorSeY
import Derived.Lib.SlicesCompact
import Derived.Shelf.Slices.CompactI
set_option linter.unusedSectionVars false
set_option linter.unusedVariables false
set_option linter.unusedSimpArgs false
namespace Go.Kin.Se
open Go.Lib
def nev : Nat := 1073741824
def rcF (S : List Int) (own : Nat -> Int) (t : Tr) (s : Int) : Nat := (bel S own t s).getD nev
def rmin (S : List Int) (own : Nat -> Int) (t : Tr) (s : Int) : Nat := (S.map fun q => stp s q + rcF S own t q).foldl min nev
theorem fmin_spec : ∀ (l : List Nat) (a : Nat), (l.foldl min a <= a /\ ∀ x ∈ l, l.foldl min a <= x) /\ (l.foldl min a = a ∨ l.foldl min a ∈ l)
 | [], a => ⟨⟨Nat.le_refl _, fun x hx => (by cases hx)⟩, .inl rfl⟩
 | y :: l, a => by
  obtain ⟨⟨h1, h2⟩, h3⟩ := fmin_spec l (min a y)
  rw [List.foldl_cons]
  refine ⟨⟨by omega, fun x hx => ?_⟩, ?_⟩
  ·rcases List.mem_cons.1 hx with rfl | hx
   ·omega
   ·exact h2 x hx
  ·rcases h3 with h3 | h3
   ·by_cases h : a <= y
    ·left; rw [h3, Nat.min_eq_left h]
    ·right; rw [h3, Nat.min_eq_right (by omega)]; exact List.mem_cons_self
   ·right; exact List.mem_cons_of_mem _ h3
theorem rmin_eq {S : List Int} {own : Nat -> Int} {t : Tr} (h : Fit S own t) (hz : t.sz <= 1000) (s : Int) : rmin S own t s = mn (S.filterMap fun q => (bel S own t q).map (· + stp s q)) := by
 obtain ⟨⟨q, hq, c, hc, he⟩, hle⟩ := part_spec h s
 obtain ⟨⟨h1, h2⟩, h3⟩ := fmin_spec (S.map fun q => stp s q + rcF S own t q) nev
 have hcz := bel_le h q c hc
 have hst := stp_le s q
 have hup : rmin S own t s <= stp s q + rcF S own t q := h2 _ (List.mem_map.2 ⟨q, hq, rfl⟩)
 have hrq : rcF S own t q = c := by unfold rcF; rw [hc]; rfl
 have hn : nev = 1073741824 := rfl
 refine Nat.le_antisymm (by omega) ?_
 rcases h3 with h3 | h3
 ·have : rmin S own t s = nev := h3
  omega
 ·obtain ⟨p, hp, hpe⟩ := List.mem_map.1 h3
  have hpe : stp s p + rcF S own t p = rmin S own t s := hpe
  cases hb : bel S own t p with
  | none =>
   have : rcF S own t p = nev := by unfold rcF; rw [hb]; rfl
   omega
  | some d =>
   have : rcF S own t p = d := by unfold rcF; rw [hb]; rfl
   have := hle p hp d hb
   omega
theorem rc_node {S : List Int} {own : Nat -> Int} {l r : Tr} (h : Fit S own (.nd l r)) (hl : l.sz <= 1000) (hr : r.sz <= 1000) (s : Int) : rmin S own l s + rmin S own r s = rcF S own (.nd l r) s := by
 rw [rmin_eq h.l hl, rmin_eq h.r hr]; rfl
theorem rc_leaf {S : List Int} {own : Nat -> Int} {i : Nat} {s : Int} : rcF S own (.lf i) s = if own i = lost ∨ own i = s then 0 else nev := by
 unfold rcF
 show (if own i = s ∨ own i = lost then some 0 else none).getD nev = _
 by_cases h : own i = s ∨ own i = lost
 ·rw [if_pos h, if_pos h.symm]; rfl
 ·rw [if_neg h, if_neg (fun h2 => h h2.symm)]; rfl
theorem rcF_le {S : List Int} {own : Nat -> Int} {t : Tr} (h : Fit S own t) (hz : t.sz <= 1000) (s : Int) : rcF S own t s <= nev := by
 unfold rcF
 cases hb : bel S own t s with
 | none => exact Nat.le_refl _
 | some c =>
  have := bel_le h s c hb
  show c <= nev
  unfold nev; omega
theorem rmin_le {S : List Int} {own : Nat -> Int} {t : Tr} (s : Int) : rmin S own t s <= nev := (fmin_spec _ nev).1.1
/-- the states that the root may have -/
def rts (S : List Int) (own : Nat -> Int) (t : Tr) : List Int := S.filter fun s => decide (bel S own t s = some (prc S own t))
theorem rc_best {S : List Int} {own : Nat -> Int} {t : Tr} (h : Fit S own t) (hz : t.sz <= 1000) : mn (S.map (rcF S own t)) = prc S own t := by
 obtain ⟨⟨s, hs, hp⟩, hmin⟩ := prc_spec h
 have hpz := bel_le h s _ hp
 refine mn_eq (List.mem_map.2 ⟨s, hs, by unfold rcF; rw [hp]; rfl⟩) fun x hx => ?_
 obtain ⟨q, hq, rfl⟩ := List.mem_map.1 hx
 unfold rcF
 cases hb : bel S own t q with
 | none => show _ <= nev; unfold nev; omega
 | some c => exact hmin q hq c hb
theorem rc_root {S : List Int} {own : Nat -> Int} {t : Tr} (h : Fit S own t) (hz : t.sz <= 1000) (s : Int) : rcF S own t s = prc S own t ↔ bel S own t s = some (prc S own t) := by
 obtain ⟨⟨q, _, hp⟩, _⟩ := prc_spec h
 have hpz := bel_le h q _ hp
 unfold rcF
 cases hb : bel S own t s with
 | none =>
  constructor
  ·intro h2
   have h2 : nev = prc S own t := h2
   unfold nev at h2; omega
  ·intro h2; cases h2
 | some c => simp
theorem rts_ne {S : List Int} {own : Nat -> Int} {t : Tr} (h : Fit S own t) : rts S own t ≠ [] := by
 obtain ⟨⟨s, hs, hp⟩, _⟩ := prc_spec h
 exact List.ne_nil_of_mem (List.mem_filter.2 ⟨hs, decide_eq_true hp⟩)
/-! ## What Compact keeps -/
theorem compact_mem (zs : List Int) (x : Int) : x ∈ compact zs ↔ x ∈ zs := by
 unfold compact compactUpTo
 constructor
 ·intro h
  obtain ⟨j, hj, rfl⟩ := List.mem_map.1 h
  have hl := List.mem_range.1 (List.mem_filter.1 hj).1
  rw [getElem!_pos zs.toArray j (by simpa using hl)]
  simp
 ·intro h
  obtain ⟨n, hn, e⟩ := List.mem_iff_getElem.1 h
  have key : ∀ m, ∀ (hm : m < zs.length), zs[m] = x -> ∃ j, j < zs.length /\ keeps zs.toArray j = true /\ zs.toArray[j]! = x := fun m => by
   induction m with
   | zero =>
    intro hm e
    refine ⟨0, hm, by simp [keeps], ?_⟩
    rw [getElem!_pos zs.toArray 0 (by simpa using hm)]; simpa using e
   | succ m ih =>
    intro hm e
    by_cases hp : zs[m]'(by omega) = x
    ·exact ih (by omega) hp
    ·refine ⟨m + 1, hm, ?_, ?_⟩
     ·simp only [keeps]
      rw [getElem!_pos zs.toArray (m + 1) (by simpa using hm), getElem!_pos zs.toArray (m + 1 - 1) (by simp; omega)]
      simp [e]
      exact fun h2 => hp h2.symm
     ·rw [getElem!_pos zs.toArray (m + 1) (by simpa using hm)]; simpa using e
  obtain ⟨j, h1, h2, h3⟩ := key n hn e
  exact List.mem_map.2 ⟨j, List.mem_filter.2 ⟨List.mem_range.2 h1, h2⟩, h3⟩
end Go.Kin.Se

namespace Go.Proofs
open Go.RowKit Go.Kin Go.Kin.Se Go.Kin.Cl Go.Shelf Go.Sort
namespace R41
def renC : Ren := ⟨fun i => if i = 20 then 53 else 0, fun i => if i = 0 then 0 else if i = 3 then 3 else if i = 4 then 4 else if i = 22 then 30 else 0, fun i => i⟩
theorem layCompact : Lays2.n20 Tryz.prog renC where
 mixed := by kernel_rfl
 f20 := by kernel_rfl
 t0 := sf0
 a0 := sq0.1
 z0 := sq0.2.1
 v0 := sq0.2.2
 t3 := sf3
 a3 := sq3.1
 z3 := sq3.2.1
 v3 := sq3.2.2
 t4 := sf4
 a4 := sq4.1
 z4 := sq4.2.1
 v4 := sq4.2.2
 t22 := sf24
 a22 := sq24.1
 z22 := sq24.2.1
 v22 := sq24.2.2
 i3 := by kernel_rfl
def flZ (l : List Int) : List Value := l.map fun x => Value.int .i64 x
theorem flZ_len (l : List Int) : (flZ l).length = l.length := List.length_map ..
theorem flZ_cst (l : List Nat) : flZ (cst l) = flN l := by unfold flZ cst flN; rw [List.map_map]; rfl
theorem flZ_eq (l : List Int) : (l.map inE).flatten = flZ l := by
 induction l with
 | nil => rfl
 | cons x l ih => rw [List.map_cons, List.flatten_cons, ih]; rfl
theorem compact_le (zs : List Int) : (Lib.compact zs).length <= zs.length := by
 unfold Lib.compact Lib.compactUpTo
 rw [List.length_map]
 exact Nat.le_trans (List.length_filter_le _ _) (by simp)
theorem compact53_calls (zs : List Int) (b cap : Nat) (rest : List Value) (w : World) (hb : w.heap[b]? = some (.cells ⟨flZ zs ++ rest⟩ 3 (0, 0))) (hl : zs.length <= 1000) (hc : zs.length <= cap) :
  Calls Tryz.prog 53 ⟨[.slice (some ⟨b, 0, none⟩) zs.length cap]⟩ w (FrQ [(b, .cells ⟨flZ zs ++ rest⟩ 3 (0, 0))] (fun _ : Unit => .slice (some ⟨b, 0, none⟩) (Lib.compact zs).length cap)
   (fun _ => [(b, .cells ⟨flZ (Lib.compact zs) ++ (List.replicate (zs.length - (Lib.compact zs).length) (.int .i64 0) ++ rest)⟩ 3 (0, 0))]) w) := by
 have H := Any.slices_Compact_int (P := Tryz.prog) (ρ := renC) layCompact b 0 cap zs w (row_holds1 hb rfl) (by omega) hc
 refine H.mono ?_
 rintro e w' ⟨he, q, rfl⟩
 have hbl : b < w.heap.size := (Array.getElem?_eq_some_iff.1 hb).1
 refine ⟨(), he, ⟨⟨rfl, rfl, rfl, ?_, ?_⟩, fun k hk => hk.1, by simp, fun p hp => ?_, closed_noJ, trivial⟩⟩
 ·rw [row_size1]; exact Nat.le_refl _
 ·intro k hk hD
  rw [row_other1 (fun e => hD.2 (by simp [e]))]; rfl
 ·rw [List.mem_singleton.1 hp]
  refine ⟨fun h => h.2 (by simp), ?_⟩
  have h1 : (Sort.ahead w q).heap[b]? = some (.cells ⟨flZ zs ++ rest⟩ 3 (0, 0)) := hb
  have hle := compact_le zs
  have h3 := row_put1 (enc := Value.int .i64) (d := (Lib.compact zs ++ List.replicate (zs.length - (Lib.compact zs).length) 0).toArray) h1 (by simp [flZ_len]; omega)
  rw [h3]
  simp [flZ]
end R41
end Go.Proofs

namespace Go.Proofs
open Go.RowKit Go.Kin Go.Kin.Se Go.Kin.Cl
namespace R41
theorem price56_calls (f t : Int) (w : World) : Calls Tryz.prog 56 ⟨[.int .i64 f, .int .i64 t]⟩ w fun e w' => e = .returned (.int .i64 (stp f t)) /\ Below w.heap.size w w' := by
 refine fEn Tryz.func56 rfl Tryz.ntmps56 rfl rfl (sWn w) ?_
 unfold stp
 by_cases h1 : f = t
 ·rw [if_pos h1]
  repeat (first|refine lVa rfl rfl (by first|exact pEv rfl|fail) ?_|refine lNi ?_|refine cRg ?_|refine cSq ?_|refine xTh ?_|refine c_dec_t rfl (by first|omega|fail) ?_|refine cBl ?_|refine c_ret ?_|refine xTr ?_|refine xBr ?_|fail)
  exact x_ret rfl rfl (by repeat constructor) rfl (fun W hW => ⟨rfl, hW.below⟩)
 rw [if_neg h1]
 by_cases h2 : t = 0
 ·rw [if_pos h2]
  repeat (first|refine lVa rfl rfl (by first|exact pEv rfl|fail) ?_|refine lNi ?_|refine cRg ?_|refine cSq ?_|refine xTh ?_|refine c_dec_t rfl (by first|omega|fail) ?_|refine c_dec_f rfl (by first|omega|fail) ?_|refine cBl ?_|refine c_ret ?_|refine xTr ?_|refine xBr ?_|fail)
  exact x_ret rfl rfl (by repeat constructor) rfl (fun W hW => ⟨rfl, hW.below⟩)
 rw [if_neg h2]
 by_cases h3 : f = 0
 ·rw [if_pos h3]
  repeat (first|refine lVa rfl rfl (by first|exact pEv rfl|fail) ?_|refine lNi ?_|refine cRg ?_|refine cSq ?_|refine xTh ?_|refine c_dec_t rfl (by first|omega|fail) ?_|refine c_dec_f rfl (by first|omega|fail) ?_|refine cBl ?_|refine c_ret ?_|refine xTr ?_|refine xBr ?_|fail)
  exact x_ret rfl rfl (by repeat constructor) rfl (fun W hW => ⟨rfl, hW.below⟩)
 rw [if_neg h3]
 repeat (first|refine lVa rfl rfl (by first|exact pEv rfl|fail) ?_|refine lNi ?_|refine cRg ?_|refine cSq ?_|refine xTh ?_|refine c_dec_f rfl (by first|omega|fail) ?_|refine cBl ?_|refine cSk ?_|refine c_ret ?_|refine x_block ?_|fail)
 exact x_ret rfl rfl (by repeat constructor) rfl (fun W hW => ⟨rfl, hW.below⟩)
theorem parts55_calls (n : Nat) (A : Option Addr) (cap : Nat) (cl : List Nat) (c a b : Nat) (w : World) (hA : Kin.At w A 1 (cl.map nE)) (hn : n <= 5) (hk : chkB n cl = true) (hl : cl.length <= 1000) (hc : c < 64) (h0 : 0 < c) (hm : c ∈ cl) (hp : prt cl c = some (a, b)) :
  Calls Tryz.prog 55 ⟨[.int .i64 n, .slice A cl.length cap, .int .i64 c]⟩ w fun e w' => e = .returned (.tuple ⟨[.int .i64 a, .int .i64 b, .int .i64 0]⟩) /\ Below w.heap.size w w' := by
 have h24 := fun W (hW : Below w.heap.size w W) => CheckT_calls n A cap cl W (hA.later hW) hn hk
 have h31 := fun W (hW : Below w.heap.size w W) => contains31_calls (c : Int) A cap (cst cl) W (by rw [cst_rows]; exact hA.later hW) (by rw [cst_len]; omega)
 have h52 := fun W (hW : Below w.heap.size w W) => parts_calls A cap cl c W (hA.later hW) hl hc h0
 rw [hp] at h52
 rw [cst_len, decide_eq_true (cst_mem.2 hm)] at h31
 unfold prtV at h52
 refine fEn Tryz.func55 rfl Tryz.ntmps55 rfl rfl (sWn w) ?_
 repeat (first|refine lVa rfl rfl (by first|exact pEv rfl|fail) ?_|refine lNi ?_|refine cRg ?_|refine cSq ?_|refine xTh ?_|fail)
 refine r_call rfl rfl rfl (fun W hW => h24 W hW.below) ?_
 repeat (first|refine lVa rfl rfl (by first|exact pEv rfl|fail) ?_|refine lNi ?_|refine cRg ?_|refine cSq ?_|refine xTh ?_|refine c_false rfl ?_|refine cSk ?_|fail)
 refine r_call rfl rfl rfl (fun W hW => h31 W hW.below) ?_
 repeat (first|refine lVa rfl rfl (by first|exact pEv rfl|fail) ?_|refine lNi ?_|refine cRg ?_|refine cSq ?_|refine xTh ?_|refine c_false rfl ?_|refine cSk ?_|fail)
 refine r_call rfl rfl rfl (fun W hW => h52 W hW.below) ?_
 repeat (first|refine lVa rfl rfl (by first|exact pEv rfl|fail) ?_|refine lNi ?_|refine cRg ?_|refine cSq ?_|refine xTh ?_|refine c_ret ?_|fail)
 exact x_ret rfl rfl (by repeat constructor) rfl (fun W hW => ⟨rfl, hW.below⟩)
end R41
end Go.Proofs

set_option maxRecDepth 100000
set_option maxHeartbeats 400000000
namespace Go.Proofs
open Go.RowKit Go.Kin Go.Kin.Se Go.Kin.Cl
namespace R41
/-- where the closure's variables lie -/
structure RC where
 b1 : Nat
 b2 : Nat
 b3 : Nat
 b4 : Nat
 b5 : Nat
 j : Nat
 As : Option Addr
 caps : Nat
 Ar : Option Addr
 capr : Nat
 Ac : Option Addr
 capc : Nat
 rows : List RV
 cl : List Nat
 S : List Int
def RC.env (E : RC) : List Value := [ptrV E.b1, ptrV E.b2, ptrV E.b3, ptrV E.b4, ptrV E.b5]
def RC.own (E : RC) : Nat -> Int := ownR E.rows E.j
structure REnv (E : RC) (w : World) : Prop where
 h1 : w.cell? ⟨E.b1, 0, none⟩ = some (.slice E.As E.S.length E.caps)
 h2 : w.cell? ⟨E.b2, 0, none⟩ = some (.slice E.Ar E.rows.length E.capr)
 h3 : w.cell? ⟨E.b3, 0, none⟩ = some (.int .i64 E.j)
 h4 : w.cell? ⟨E.b4, 0, none⟩ = some (.slice E.Ac E.cl.length E.capc)
 h5 : w.cell? ⟨E.b5, 0, none⟩ = some (.func (.func 54) ⟨[]⟩ ⟨E.env⟩)
 st : Kin.At w E.As 1 (E.S.map inE)
 ar : Kin.At w E.Ar 1 (E.rows.map rvE)
 row : ∀ v ∈ E.rows, Kin.At w v.A 1 (v.l.map inE)
 ac : Kin.At w E.Ac 1 (E.cl.map nE)
theorem REnv.later {E : RC} {w w' : World} (h : REnv E w) (k : Below w.heap.size w w') : REnv E w' :=
 ⟨(k.cell (lt_of_cell h.h1)).trans h.h1, (k.cell (lt_of_cell h.h2)).trans h.h2, (k.cell (lt_of_cell h.h3)).trans h.h3, (k.cell (lt_of_cell h.h4)).trans h.h4, (k.cell (lt_of_cell h.h5)).trans h.h5, h.st.later k, h.ar.later k, fun v hv => (h.row v hv).later k, h.ac.later k⟩
structure ROK (E : RC) : Prop where
 n5 : E.rows.length <= 5
 jlt : ∀ v ∈ E.rows, E.j < v.l.length
 j3 : E.j < 1000
 len : ∀ v ∈ E.rows, v.l.length <= 1000
 cll : E.cl.length <= 1000
 sl : E.S.length <= 100
 s0 : E.S ≠ []
 ck : chkB E.rows.length E.cl = true
/-- numbers handed back in a block of their own -/
def RtQ (l : List Nat) (w : World) : Ending -> World -> Prop := FrQ [] (fun i : NwI l => .slice (some ⟨i.1.1, 0, none⟩) l.length i.1.2.1) (fun i => [(i.1.1, .cells ⟨flN l ++ i.1.2.2⟩ 3 (0, 0))]) w
theorem frQ_base {w W : World} {mem : List (Nat × Obj)} (h : SatW w (base w) noJ mem W) : SatW w (allBut w (List.map (·.1) ([] : List (Nat × Obj)))) noJ mem W :=
 ⟨h.same.mono fun b hb => hb.1, fun b hb => hb.1, h.nodup, fun p hp => ⟨fun hb => (h.own p hp).1 hb.1, (h.own p hp).2⟩, closed_noJ, trivial⟩
theorem ivec_zero (n : Nat) : (ivec n fun _ => 0) = flN (List.replicate n 0) := by
 unfold ivec vec flN
 rw [List.map_replicate, List.map_const', List.length_range]; rfl
/-- a row that is half done -/
def outP (f g : Int -> Nat) (S : List Int) (i : Nat) : List Nat := (S.take i).map g ++ (S.drop i).map f
theorem outP_len {f g : Int -> Nat} {S : List Int} {i : Nat} : (outP f g S i).length = S.length := by
 unfold outP
 rw [List.length_append, List.length_map, List.length_map, List.length_take, List.length_drop]; omega
theorem outP_0 {f g : Int -> Nat} {S : List Int} : outP f g S 0 = S.map f := rfl
theorem outP_all {f g : Int -> Nat} {S : List Int} : outP f g S S.length = S.map g := by
 unfold outP
 rw [List.take_length, List.drop_length, List.map_nil, List.append_nil]
theorem outP_get {f g : Int -> Nat} {S : List Int} {i : Nat} {s : Int} (h : S[i]? = some s) : (outP f g S i)[i]? = some (f s) := by
 have hl := (List.getElem?_eq_some_iff.1 h).1
 unfold outP
 rw [List.getElem?_append_right (by rw [List.length_map, List.length_take]; omega), List.length_map, List.length_take, Nat.min_eq_left (by omega), Nat.sub_self, List.getElem?_map, List.getElem?_drop, Nat.add_zero, h]; rfl
theorem outP_set {f g : Int -> Nat} {S : List Int} {i : Nat} {s : Int} (h : S[i]? = some s) : (outP f g S i).set i (g s) = outP f g S (i + 1) := by
 have hl := (List.getElem?_eq_some_iff.1 h).1
 unfold outP
 have h1 : S.take (i + 1) = S.take i ++ [s] := by rw [List.take_add_one, h]; rfl
 have h2 : S.drop i = s :: S.drop (i + 1) := drop_getA h
 rw [h1, h2, List.set_append_right _ _ (by rw [List.length_map, List.length_take]; omega), List.length_map, List.length_take, Nat.min_eq_left (by omega), Nat.sub_self]
 simp
theorem outP_same {f g : Int -> Nat} {S : List Int} {i : Nat} {s : Int} (h : S[i]? = some s) (e : g s = f s) : outP f g S (i + 1) = outP f g S i := by
 rw [<- outP_set h, e]
 obtain ⟨hl, he⟩ := List.getElem?_eq_some_iff.1 (outP_get (f := f) (g := g) h)
 rw [<- he]
 exact List.set_getElem_self hl
theorem rleaf_calls (E : RC) (hE : ROK E) (i : Nat) (w : World) (hB : REnv E w) (hi : i < E.rows.length) : Calls Tryz.prog 54 ⟨.int .i64 ((2 ^ i : Nat) : Int) :: E.env⟩ w (RtQ (E.S.map (rcF E.S E.own (.lf i))) w) := by
 obtain ⟨n5, jlt, j3, hlen, cll, sl, s0, ck⟩ := hE
 have x1 := ext1o hB.h1
 have x2 := ext1o hB.h2
 have x3 := ext1o hB.h3
 have hsg : ∀ i, i < 5 -> bits .and .i64 ((2 ^ i : Nat) : Int) (((2 ^ i : Nat) : Int) - 1) = 0 := by decide +kernel
 have hsi := hsg i (by omega)
 have h2i : 2 ^ i <= 2 ^ 4 := Nat.pow_le_pow_right (by omega) (by omega)
 have h2p : 0 < 2 ^ i := Nat.two_pow_pos i
 have hinj : ∀ k, k < i -> 2 ^ k < 2 ^ i := fun k hk => Nat.pow_lt_pow_right (by omega) hk
 obtain ⟨q, hq⟩ : ∃ q, 2 ^ i = q := ⟨_, rfl⟩
 rw [hq] at hsi h2i h2p hinj ⊢
 obtain ⟨v, hv⟩ : ∃ v, E.rows[i]? = some v := ⟨_, List.getElem?_eq_getElem hi⟩
 have hvm := List.mem_of_getElem? hv
 obtain ⟨br, or, hAr, hcr⟩ := hB.ar i (rvE v) (by rw [List.getElem?_map, hv]; rfl)
 have y1 := ext_of hcr
 rw [Nat.mul_one] at y1
 rw [hAr] at x2
 have hjl := jlt v hvm
 have hvl := hlen v hvm
 obtain ⟨o, ho⟩ : ∃ o, v.l[E.j]? = some o := ⟨_, List.getElem?_eq_getElem hjl⟩
 obtain ⟨bv, ov, hAv, hcv⟩ := hB.row v hvm E.j (inE o) (by rw [List.getElem?_map, ho]; rfl)
 have y2 := ext_of hcv
 rw [Nat.mul_one] at y2
 have hown : E.own i = o := by
  unfold RC.own ownR
  rw [List.getD_eq_getElem?_getD, List.getD_eq_getElem?_getD, List.getElem?_map, hv]
  show (v.l[E.j]?).getD lost = o
  rw [ho]; rfl
 have hrc : ∀ s, rcF E.S E.own (.lf i) s = if o = lost ∨ o = s then 0 else nev := fun s => by rw [rc_leaf, hown]
 obtain ⟨f, hf⟩ : ∃ f, rcF E.S E.own (.lf i) = f := ⟨_, rfl⟩
 rw [hf] at hrc ⊢
 obtain ⟨S, hS⟩ : ∃ S, E.S = S := ⟨_, rfl⟩
 have hst := hB.st
 rw [hS] at x1 sl s0 hst ⊢
 unfold RC.env ptrV
 refine fEn Tryz.func54 rfl Tryz.ntmps54 rfl rfl (sWn w) ?_
 repeat (first|refine lVa rfl rfl (by first|exact v_sub rfl rfl (by omega) (by omega)|exact pEv rfl|exact vL0 rfl (by assumption) rfl (by rfl)|fail) ?_|refine lNi ?_|refine cRg ?_|refine cSq ?_|refine xTh ?_|refine r_make rfl rfl rfl rfl rfl rfl (by first|rfl|fail) (by omega) (by omega) rfl rfl (by first|exact flat_int|fail) (fun _ => ?_)|fail)
 rename_i bo
 have hz : (ivec S.length fun _ => 0) = flN (outP (fun _ => 0) f S 0) := by rw [outP_0, List.map_const']; exact ivec_zero _
 rw [hz]
 repeat (first|refine lVa rfl rfl (v_andA rfl rfl hsi) ?_|refine lVa rfl rfl (by first|exact pEv rfl|fail) ?_|refine lNi ?_|refine cRg ?_|refine cSq ?_|refine xTh ?_|refine c_true rfl ?_|refine cBl ?_|fail)
 refine c_loop (ι := Nat) (fun k => k <= i) (fun k => [(0, .int .i64 q), (1, .pointer (some ⟨E.b1, 0, none⟩)), (2, .pointer (some ⟨E.b2, 0, none⟩)), (3, .pointer (some ⟨E.b3, 0, none⟩)), (8, .slice (some ⟨bo, 0, none⟩) S.length S.length), (9, .int .i64 k)]) (fun _ => [(bo, .cells ⟨flN (outP (fun _ => 0) f S 0)⟩ 3 (0, 0))]) (fun k => i - k) 0 (Nat.zero_le _) (by repeat (first|exact .nil|refine .cons rfl (by first|rfl|(congr 1; done)|exact congrArg _ (by omega)|(simp; done)) ?_)) (by repeat (first|exact .nil|refine .keep (by first|rfl|assumption) ?_|refine .drop ?_|exact MSub.refl _)) ?_
 intro k hk
 have hsh := shl_small k (by omega)
 by_cases hlt : k < i
 ·have := hinj k hlt
  obtain ⟨p, hp⟩ : ∃ p, 2 ^ k = p := ⟨_, rfl⟩
  rw [hp] at hsh this
  repeat (first|refine lVa rfl rfl (v_shlA rfl rfl (by omega) hsh) ?_|refine lVa rfl rfl (by first|exact v_add rfl rfl (by omega) (by omega)|exact pEv rfl|fail) ?_|refine lNi ?_|refine cRg ?_|refine cSq ?_|refine xTh ?_|refine c_dec_t rfl (by first|omega|fail) ?_|refine cBl ?_|refine cSk ?_|refine x_block ?_|fail)
  exact x_back (k + 1) (by omega) (by omega) (by repeat (first|exact .nil|refine .cons rfl (by first|rfl|(congr 1; done)|exact congrArg _ (by omega)|(simp; done)) ?_)) (by repeat (first|exact .nil|refine .keep (by first|rfl|assumption) ?_|refine .drop ?_|exact MSub.refl _))
 have hki : k = i := by omega
 subst hki
 rw [hq] at hsh
 repeat (first|refine lVa rfl rfl (v_shlA rfl rfl (by omega) hsh) ?_|refine lVa rfl rfl (by first|exact pEv rfl|exact vL0 rfl (by assumption) rfl (by rfl)|fail) ?_|refine lNi ?_|refine cRg ?_|refine cSq ?_|refine xTh ?_|refine c_dec_f rfl (by first|omega|fail) ?_|refine cBl ?_|refine c_exit ?_|refine xTe ?_|refine xBs ?_|fail)
 refine c_loop (ι := Nat) (fun m => m <= S.length) (fun m => [(2, .pointer (some ⟨E.b2, 0, none⟩)), (3, .pointer (some ⟨E.b3, 0, none⟩)), (8, .slice (some ⟨bo, 0, none⟩) S.length S.length), (9, .int .i64 k), (38, .slice E.As S.length E.caps), (39, .int .i64 S.length), (40, .int .i64 m)]) (fun m => [(bo, .cells ⟨flN (outP (fun _ => 0) f S m)⟩ 3 (0, 0))]) (fun m => S.length - m) 0 (Nat.zero_le _) (by repeat (first|exact .nil|refine .cons rfl (by first|rfl|(congr 1; done)|exact congrArg _ (by omega)|(simp; done)) ?_)) (by repeat (first|exact .nil|refine .keep (by first|rfl|assumption) ?_|refine .drop ?_|exact MSub.refl _)) ?_
 intro m hm
 by_cases hlm : m < S.length
 rotate_left
 ·have hme : m = S.length := by omega
  subst hme
  rw [outP_all]
  repeat (first|refine lVa rfl rfl (by first|exact pEv rfl|fail) ?_|refine lNi ?_|refine cRg ?_|refine cSq ?_|refine xTh ?_|refine c_dec_f rfl (by first|omega|fail) ?_|refine c_ret ?_|refine c_exit ?_|refine xTr ?_|refine xTe ?_|refine xBs ?_|fail)
  refine x_ret rfl rfl (by repeat constructor) rfl (fun W hW => ⟨⟨(bo, S.length, []), ?_⟩, ?_, ?_⟩)
  ·exact ⟨by rw [nE_len, List.length_map], by rw [List.append_nil, nE_len, List.length_map, Nat.mul_one], by rw [List.length_map]; exact Nat.le_refl _, by show S.length <= maxLen; unfold maxLen; omega⟩
  ·show Ending.returned _ = Ending.returned (.slice (some ⟨bo, 0, none⟩) (S.map f).length S.length)
   rw [List.length_map]
  ·have := frQ_base hW
   simp only [List.append_nil]
   exact this
 obtain ⟨s, hs⟩ : ∃ s, S[m]? = some s := ⟨_, List.getElem?_eq_getElem hlm⟩
 obtain ⟨b', o', hAs, hcs⟩ := hst m (inE s) (by rw [List.getElem?_map, hs]; rfl)
 have y3 := ext_of hcs
 rw [Nat.mul_one] at y3
 have hset := outP_set (f := fun _ => 0) (g := f) hs
 have hsame := outP_same (f := fun _ => 0) (g := f) hs
 have hlen' := outP_len (f := fun _ => 0) (g := f) (S := S) (i := m)
 have hfs := hrc s
 rw [hAs]
 rw [hAv] at y1
 have hnv : nev = 1073741824 := rfl
 have hls : lost = 8589934592 := rfl
 by_cases h1 : o = lost
 ·rw [if_pos (.inl h1)] at hfs
  rw [hls] at h1
  have hsm := hsame hfs
  repeat (first|refine lVa rfl rfl (by first|exact v_add rfl rfl (by omega) (by omega)|exact pEv rfl|exact vL0 rfl (by assumption) rfl (by rfl)|exact v_index rfl rfl rfl rfl (by omega) (by omega) (by with_reducible first|exact idx2 _ _|fail)|fail) ?_|refine lNi ?_|refine cRg ?_|refine cSq ?_|refine xTh ?_|refine l_skip rfl rfl ?_|refine c_false rfl ?_|refine c_dec_t rfl (by first|omega|fail) ?_|refine cBl ?_|refine cSk ?_|refine x_block ?_|refine l_dec_f rfl rfl rfl rfl rfl (by first|omega|fail) ?_|refine c_reads rfl (by decide +kernel) ?_|refine q_val rfl rfl (by first|exact pEv rfl|exact vL0 rfl (by assumption) rfl (by rfl)|exact v_index rfl rfl rfl rfl (by omega) (by omega) (by with_reducible first|exact idx2 _ _|fail)|fail) ?_|refine q_nil ?_|fail)
  exact x_back (m + 1) hlm (by omega) (by repeat (first|exact .nil|refine .cons rfl (by first|rfl|(congr 1; done)|exact congrArg _ (by omega)|(simp; done)) ?_)) (by rw [hsm]; exact .refl _)
 by_cases h2 : o = s
 ·rw [if_pos (.inr h2)] at hfs
  rw [hls] at h1
  have hsm := hsame hfs
  repeat (first|refine lVa rfl rfl (by first|exact v_add rfl rfl (by omega) (by omega)|exact pEv rfl|exact vL0 rfl (by assumption) rfl (by rfl)|exact v_index rfl rfl rfl rfl (by omega) (by omega) (by with_reducible first|exact idx2 _ _|fail)|fail) ?_|refine lNi ?_|refine cRg ?_|refine cSq ?_|refine xTh ?_|refine c_dec_t rfl (by first|omega|fail) ?_|refine c_dec_f rfl (by first|omega|fail) ?_|refine cBl ?_|refine cSk ?_|refine x_block ?_|refine l_dec_t rfl rfl rfl rfl rfl (by first|omega|fail) ?_|refine c_reads rfl (by decide +kernel) ?_|refine q_val rfl rfl (by first|exact pEv rfl|exact vL0 rfl (by assumption) rfl (by rfl)|exact v_index rfl rfl rfl rfl (by omega) (by omega) (by with_reducible first|exact idx2 _ _|fail)|fail) ?_|refine q_nil ?_|fail)
  exact x_back (m + 1) hlm (by omega) (by repeat (first|exact .nil|refine .cons rfl (by first|rfl|(congr 1; done)|exact congrArg _ (by omega)|(simp; done)) ?_)) (by rw [hsm]; exact .refl _)
 rw [if_neg (fun h => h.elim h1 h2), hnv] at hfs
 rw [hfs] at hset
 rw [hls] at h1
 have hst2 : (flN (outP (fun _ => 0) f S m)).set m (.int .i64 1073741824) = flN (outP (fun _ => 0) f S (m + 1)) := by
  have := flN_set (l := outP (fun _ => 0) f S m) (i := m) (x := 1073741824) (by omega) []
  rw [List.append_nil, List.append_nil, hset] at this
  exact this
 repeat (first|refine r_store_at rfl rfl rfl rfl rfl rfl (by repeat constructor) (by rw [flN_len, hlen']; omega) hst2 ?_|refine lVa rfl rfl (by first|exact v_add rfl rfl (by omega) (by omega)|exact pEv rfl|exact vL0 rfl (by assumption) rfl (by rfl)|exact v_index rfl rfl rfl rfl (by omega) (by omega) (by with_reducible first|exact idx1 _|exact idx2 _ _|fail)|fail) ?_|refine lNi ?_|refine cRg ?_|refine cSq ?_|refine xTh ?_|refine c_dec_t rfl (by first|omega|fail) ?_|refine cBl ?_|refine cSk ?_|refine x_block ?_|refine l_dec_t rfl rfl rfl rfl rfl (by first|omega|fail) ?_|refine c_reads rfl (by decide +kernel) ?_|refine q_val rfl rfl (by first|exact pEv rfl|exact vL0 rfl (by assumption) rfl (by rfl)|exact v_index rfl rfl rfl rfl (by omega) (by omega) (by with_reducible first|exact idx2 _ _|fail)|fail) ?_|refine q_nil ?_|fail)
 exact x_back (m + 1) hlm (by omega) (by repeat (first|exact .nil|refine .cons rfl (by first|rfl|(congr 1; done)|exact congrArg _ (by omega)|(simp; done)) ?_)) (by repeat (first|exact .nil|refine .keep (by first|rfl|assumption) ?_|refine .drop ?_|exact MSub.refl _))
end R41
end Go.Proofs

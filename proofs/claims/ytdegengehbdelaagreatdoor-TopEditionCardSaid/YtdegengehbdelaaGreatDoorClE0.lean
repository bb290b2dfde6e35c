/- Collating: the whole table. Plain Lean. -/
import Derived.Test.YtdegengehbdelaaGreatDoorClN
import Derived.Test.YtdegengehbdelaaGreatDoorRtNum
import Derived.Test.YtdegengehbdelaaGreatDoorEng25
import Derived.Test.YtdegengehbdelaaGreatDoorClPl
set_option linter.unusedSectionVars false
set_option linter.unusedVariables false
set_option linter.unusedSimpArgs false
namespace Go.Kin.Cl
section
variable (ls : List (List Int))
def txt : List Int := ls.headD []
def li (i : Nat) : List Int := ls.getD i []
/-- the pairs of a witness with the first one -/
def prI (i : Nat) : List (Int × Int) := if i = 0 then [] else prs (best (txt ls) (li ls i)) 0 0
def ysI (i : Nat) : List (Int × Int) := alY (prI ls i) 0
def sgI (i k : Nat) : List Int := sel (li ls i) k (ysI ls i)
def g0I (i : Nat) : Nat -> Int := if i = 0 then fun q => (txt ls).getD q 0 else fun _ => 0
def tpI (i k : Nat) : Int := ov (li ls i) (prI ls i) (g0I ls i) k
/-- how many further loci the first `i` witnesses need behind `k` readings -/
def wdI : Nat -> Nat -> Nat
 | 0, _ => 0
 | i + 1, k => max (wdI i k) (sgI ls i k).length
def wd (k : Nat) : Nat := wdI ls ls.length k
def lociN : Nat := atk (wd ls) (txt ls).length + wd ls (txt ls).length
def rowI (i : Nat) : List Int := rowL (wd ls) (sgI ls i) (tpI ls i) (txt ls).length
end
variable {ls : List (List Int)}
theorem prI_0 : prI ls 0 = [] := if_pos rfl
theorem prI_s {i : Nat} (h : i ≠ 0) : prI ls i = prs (best (txt ls) (li ls i)) 0 0 := if_neg h
theorem li_0 : li ls 0 = txt ls := by cases ls <;> rfl
theorem sgI_0 (k : Nat) : sgI ls 0 k = [] := by unfold sgI ysI; rw [prI_0]; rfl
theorem wdI_1 (k : Nat) : wdI ls 1 k = 0 := by rw [wdI, sgI_0]; rfl
theorem wdI_mono {i j k : Nat} (h : i <= j) : wdI ls i k <= wdI ls j k := by
 induction j with
 | zero => have : i = 0 := by omega
           subst this; exact Nat.le_refl _
 | succ j ih =>
  by_cases e : i = j + 1
  ·subst e; exact Nat.le_refl _
  ·exact Nat.le_trans (ih (by omega)) (by rw [wdI]; exact Nat.le_max_left _ _)
theorem sgI_le {i k : Nat} (h : i < ls.length) : (sgI ls i k).length <= wd ls k := Nat.le_trans (by rw [wdI]; exact Nat.le_max_right _ _) (wdI_mono (i := i + 1) h)
theorem sel_len (b : List Int) (k : Int) : ∀ l : List (Int × Int), (sel b k l).length <= l.length
 | [] => Nat.le_refl _
 | y :: l => by have := sel_len b k l; rw [sel]; split <;> simp only [List.length_cons] <;> omega
theorem alY_len : ∀ (l : List (Int × Int)) (af : Int), (alY l af).length <= l.length
 | [], _ => Nat.le_refl _
 | x :: l, af => by rw [alY]; split <;> (have := alY_len l x.1; have := alY_len l af; simp only [List.length_cons]; omega)
theorem prs_len : ∀ (m : List Mv) (i k : Nat), (prs m i k).length = m.length
 | [], _, _ => rfl
 | .both :: m, i, k => by simp only [prs, List.length_cons, prs_len m]
 | .left :: m, i, k => by simp only [prs, List.length_cons, prs_len m]
 | .right :: m, i, k => by simp only [prs, List.length_cons, prs_len m]
theorem al_len {a b : List Int} {m : List Mv} {c : Int} (h : Al a b m c) : m.length <= a.length + b.length := by
 induction h <;> simp only [List.length_cons, List.length_nil] at * <;> omega
theorem prI_len (i : Nat) : (prI ls i).length <= (txt ls).length + (li ls i).length := by
 by_cases h : i = 0
 ·rw [h, prI_0]; exact Nat.zero_le _
 ·rw [prI_s h, prs_len]; exact al_len (best_al _ _)
/-- all lists are short -/
def Short (ls : List (List Int)) : Prop := ∀ i, (li ls i).length <= 64
theorem Short.txt (h : Short ls) : (txt ls).length <= 64 := by rw [<- li_0]; exact h 0
theorem sgI_len (h : Short ls) (i k : Nat) : (sgI ls i k).length <= 128 := by
 have h1 := sel_len (li ls i) k (ysI ls i)
 have h2 := alY_len (prI ls i) 0
 have h3 := prI_len (ls := ls) i
 have h4 := h i
 have h5 := h.txt
 unfold sgI
 unfold ysI at *
 omega
theorem wdI_len (h : Short ls) : ∀ i k : Nat, wdI ls i k <= 128
 | 0, _ => Nat.zero_le _
 | i + 1, k => by rw [wdI]; exact Nat.max_le.2 ⟨wdI_len h i k, sgI_len h i k⟩
theorem atk_bd {w : Nat -> Nat} (h : ∀ k, w k <= 128) : ∀ k, atk w k <= 129 * k
 | 0 => Nat.le_refl _
 | k + 1 => by have := atk_bd h k; have := h k; rw [atk]; omega
theorem prI_bd {i : Nat} : ∀ x ∈ prI ls i, (0 < x.1 /\ x.1 <= (txt ls).length ∨ x.1 = 0) /\ (0 < x.2 /\ x.2 <= (li ls i).length ∨ x.2 = 0) /\ (x.1 = 0 -> 0 < x.2) := by
 intro x hx
 by_cases h : i = 0
 ·rw [h, prI_0] at hx; cases hx
 ·rw [prI_s h] at hx
  have := prs_bd (b := li ls i) (best_al (txt ls) (li ls i)) 0 0 rfl x hx
  omega
theorem ysI_bd {i : Nat} : ∀ y ∈ ysI ls i, 0 <= y.1 /\ y.1 <= (txt ls).length /\ 0 <= y.2 /\ y.2 < (li ls i).length := by
 intro y hy
 unfold ysI at hy
 by_cases h : i = 0
 ·rw [h, prI_0] at hy; cases hy
 ·rw [prI_s h] at hy
  have := alY_bd (b := li ls i) (best_al (txt ls) (li ls i)) 0 0 rfl y hy
  omega
theorem sgI_alo {i : Nat} (h : i ≠ 0) (k : Nat) : sgI ls i k = alo (best (txt ls) (li ls i)) (li ls i) k := by
 unfold sgI ysI
 rw [prI_s h]
 have := sel_alY (li ls i) (best_al (txt ls) (li ls i)) 0 0 rfl k
 rw [if_pos (Nat.zero_le _)] at this
 exact this
theorem tpI_bsc {i : Nat} (h : i ≠ 0) (k : Nat) : tpI ls i k = bsc (best (txt ls) (li ls i)) (li ls i) k := by
 unfold tpI g0I
 rw [prI_s h, if_neg h, ov_prs (li ls i) (best_al (txt ls) (li ls i)) 0 0 _ rfl (fun _ _ => rfl) k, if_neg (by omega)]
 rfl
theorem tpI_0 (k : Nat) : tpI ls 0 k = (txt ls).getD k 0 := by unfold tpI g0I; rw [prI_0, if_pos rfl]; rfl
theorem rowI_len {i : Nat} (h : i < ls.length) : (rowI ls i).length = lociN ls := rowL_len fun k _ => sgI_le h
/-- after some yields: how many codes lie behind each reading -/
theorem sel_take_succ {b : List Int} {ys : List (Int × Int)} {t : Nat} {y : Int × Int} (h : ys[t]? = some y) (k : Int) : sel b k (ys.take (t + 1)) = sel b k (ys.take t) ++ (if y.1 = k then [b.getD y.2.toNat 0] else []) := by
 rw [List.take_add_one, h]; exact sel_snoc b k y _
end Go.Kin.Cl

set_option maxRecDepth 100000
set_option maxHeartbeats 400000000
namespace Go.Proofs
open Go.RowKit Go.Kin Go.Kin.Cl
namespace R41
/-- what is left -/
def lft (a b : List Int) (i k : Int) : Int := ac (a.drop i.toNat) (b.drop k.toNat)
def Db (w : World) (bm : Nat) : Nat -> Prop := fun k => k < w.heap.size /\ k ≠ bm
@[reducible] def capsL (x2 x3 x4 x5 : Nat) : List Value := [.pointer (some ⟨x2, 0, none⟩), .pointer (some ⟨x3, 0, none⟩), .pointer (some ⟨x4, 0, none⟩), .pointer (some ⟨x5, 0, none⟩)]
/-- the world in which the closure works -/
structure LW (a b : List Int) (A B : Option Addr) (ca cb x2 x3 x4 x5 bm : Nat) (w : World) : Prop where
 e2 : Ext w (Db w bm) x2 0 [.slice A a.length ca]
 e3 : Ext w (Db w bm) x3 0 [.slice B b.length cb]
 e4 : Ext w (Db w bm) x4 0 [.map (some bm)]
 e5 : Ext w (Db w bm) x5 0 [.func (.func 38) ⟨[]⟩ ⟨capsL x2 x3 x4 x5⟩]
 eA : ∀ (i : Nat) (x : Int), a[i]? = some x -> ∃ b o, A = some ⟨b, o, none⟩ /\ Ext w (Db w bm) b (o + i) [.int .i64 x]
 eB : ∀ (i : Nat) (x : Int), b[i]? = some x -> ∃ b o, B = some ⟨b, o, none⟩ /\ Ext w (Db w bm) b (o + i) [.int .i64 x]
 mp : ∃ ents clock, w.heap[bm]? = some (.map ⟨ents⟩ clock) /\ ∀ e ∈ ents, EntF (lft a b) e
theorem db_move {w W : World} {bm : Nat} (hS : Same (Db w bm) w W) {k : Nat} (h : Db w bm k) : Db W bm k := ⟨Nat.lt_of_lt_of_le h.1 hS.size, h.2⟩
theorem LW.move {a b : List Int} {A B : Option Addr} {ca cb x2 x3 x4 x5 bm : Nat} {w W : World} (h : LW a b A B ca cb x2 x3 x4 x5 bm w) (hS : Same (Db w bm) w W) (hm : ∃ ents clock, W.heap[bm]? = some (.map ⟨ents⟩ clock) /\ ∀ e ∈ ents, EntF (lft a b) e) : LW a b A B ca cb x2 x3 x4 x5 bm W :=
 ⟨h.e2.move hS fun _ => db_move hS, h.e3.move hS fun _ => db_move hS, h.e4.move hS fun _ => db_move hS, h.e5.move hS fun _ => db_move hS,
  fun i x hi => by obtain ⟨b, o, e, g⟩ := h.eA i x hi; exact ⟨b, o, e, g.move hS fun _ => db_move hS⟩,
  fun i x hi => by obtain ⟨b, o, e, g⟩ := h.eB i x hi; exact ⟨b, o, e, g.move hS fun _ => db_move hS⟩, hm⟩
theorem LW.sat {a b : List Int} {A B : Option Addr} {ca cb x2 x3 x4 x5 bm : Nat} {w W : World} {mem : List (Nat × Obj)} (h : LW a b A B ca cb x2 x3 x4 x5 bm w) (hW : SatW w (Db w bm) (MapJ bm (lft a b)) mem W) : LW a b A B ca cb x2 x3 x4 x5 bm W :=
 h.move hW.same hW.word.2.2
theorem lft_end {a b : List Int} {i k : Nat} (hi : i <= a.length) (hk : k <= b.length) (h : i = a.length ∨ k = b.length) : lft a b i k = 2 * ((a.length : Int) - i + b.length - k) := by
 unfold lft
 rw [Int.toNat_natCast, Int.toNat_natCast]
 rcases h with h | h
 ·rw [h, List.drop_length, ac_nil_left, List.length_drop]; omega
 ·rw [h, List.drop_length, ac_nil_right, List.length_drop]; omega
theorem lft_step {a b : List Int} {i k : Nat} {x y : Int} (hx : a[i]? = some x) (hy : b[k]? = some y) : lft a b i k = min (min (bes x y + lft a b ((i : Int) + 1) ((k : Int) + 1)) (2 + lft a b ((i : Int) + 1) k)) (2 + lft a b i ((k : Int) + 1)) := by
 obtain ⟨hi, hx⟩ := List.getElem?_eq_some_iff.1 hx
 obtain ⟨hk, hy⟩ := List.getElem?_eq_some_iff.1 hy
 unfold lft
 rw [show ((i : Int) + 1).toNat = i + 1 by omega, show ((k : Int) + 1).toNat = k + 1 by omega, Int.toNat_natCast, Int.toNat_natCast, List.drop_eq_getElem_cons hi, List.drop_eq_getElem_cons hk, hx, hy, ac_cons]
theorem lft_bd (a b : List Int) (i k : Int) (ha : a.length <= 64) (hb : b.length <= 64) : 0 <= lft a b i k /\ lft a b i k <= 256 := by
 have := ac_bd (a.drop i.toNat) (b.drop k.toNat)
 unfold lft
 rw [List.length_drop, List.length_drop] at this
 omega

theorem least_calls (a b : List Int) (A B : Option Addr) (ca cb x2 x3 x4 x5 bm : Nat) (ha : a.length <= 64) (hb : b.length <= 64) : ∀ (n i k : Nat) (I K : Int), I = i -> K = k -> i <= a.length -> k <= b.length -> (a.length - i) + (b.length - k) <= n -> ∀ w, LW a b A B ca cb x2 x3 x4 x5 bm w ->
  Calls Tryz.prog 38 ⟨[.int .i64 I, .int .i64 K] ++ capsL x2 x3 x4 x5⟩ w fun e w' => e = .returned (.int .i64 (lft a b I K)) /\ Same (fun k => k ≠ bm) w w' /\ ∃ ents clock, w'.heap[bm]? = some (.map ⟨ents⟩ clock) /\ ∀ e ∈ ents, EntF (lft a b) e
 | n, i, k, I, K, hI, hK, hi, hk, hn, w, hw => by
  subst hI hK
  have e2 := hw.e2
  have e3 := hw.e3
  have e4 := hw.e4
  have e5 := hw.e5
  have hDb : ¬ Db w bm bm := fun h => h.2 rfl
  have hsat : SatW w (Db w bm) (MapJ bm (lft a b)) [] w := by
   obtain ⟨ents, clock, h1, h2⟩ := hw.mp
   exact ⟨Same.refl _ _, fun _ h => h.1, List.nodup_nil, fun p hp => (by cases hp), closed_mapJ _ _, lt_of_heap h1, fun h => by simp [keys] at h, ents, clock, h1, h2⟩
  have hfin : ∀ {W : World} {mem : List (Nat × Obj)}, SatW w (Db w bm) (MapJ bm (lft a b)) mem W -> Same (fun k => k ≠ bm) w W /\ ∃ ents clock, W.heap[bm]? = some (.map ⟨ents⟩ clock) /\ ∀ e ∈ ents, EntF (lft a b) e :=
   fun hW => ⟨hW.same.monoLt fun b hb hne => ⟨hb, hne⟩, hW.word.2.2⟩
  refine fEn Tryz.func38 rfl Tryz.ntmps38 rfl rfl hsat ?_
  by_cases hend : i = a.length ∨ k = b.length
  ·have hv := lft_end hi hk hend
   by_cases h1 : i = a.length
   ·clear hend
    repeat (first|refine lVa rfl rfl (by first|exact v_add rfl rfl (by omega) (by omega)|exact v_sub rfl rfl (by omega) (by omega)|exact v_mul rfl rfl (by omega) (by omega)|exact pEv rfl|exact vL0 rfl (by assumption) rfl (by rfl)|fail) ?_|refine lNi ?_|refine cRg ?_|refine cSq ?_|refine xTh ?_|refine l_skip rfl rfl ?_|refine c_true rfl ?_|refine c_ret ?_|refine xTr ?_|refine l_dec_t rfl rfl rfl rfl rfl (by first|omega|fail) ?_|fail)
    exact x_ret rfl rfl (by repeat constructor) rfl (fun W hW => ⟨by rw [hv], hfin hW⟩)
   ·have h2 : k = b.length := by omega
    clear hend
    repeat (first|refine lVa rfl rfl (by first|exact v_add rfl rfl (by omega) (by omega)|exact v_sub rfl rfl (by omega) (by omega)|exact v_mul rfl rfl (by omega) (by omega)|exact pEv rfl|exact vL0 rfl (by assumption) rfl (by rfl)|fail) ?_|refine lNi ?_|refine cRg ?_|refine cSq ?_|refine xTh ?_|refine c_dec_t rfl (by first|omega|fail) ?_|refine c_ret ?_|refine xTr ?_|refine l_dec_f rfl rfl rfl rfl rfl (by first|omega|fail) ?_|fail)
    exact x_ret rfl rfl (by repeat constructor) rfl (fun W hW => ⟨by rw [hv], hfin hW⟩)
  have h1 : i < a.length := by omega
  have h2 : k < b.length := by omega
  clear hend
  obtain ⟨x, hx⟩ : ∃ x, a[i]? = some x := ⟨_, List.getElem?_eq_getElem h1⟩
  obtain ⟨y, hy⟩ : ∃ y, b[k]? = some y := ⟨_, List.getElem?_eq_getElem h2⟩
  obtain ⟨bA, oA, rfl, eA⟩ := hw.eA i x hx
  obtain ⟨bB, oB, rfl, eB⟩ := hw.eB k y hy
  have hs := lft_step hx hy
  cases n with
  | zero => omega
  | succ n =>
   have IH : ∀ (i' k' : Nat) (I K : Int), I = i' -> K = k' -> i' <= a.length -> k' <= b.length -> (a.length - i') + (b.length - k') <= n -> ∀ (mem : List (Nat × Obj)) (W : World), SatW w (Db w bm) (MapJ bm (lft a b)) mem W ->
     Calls Tryz.prog 38 ⟨[.int .i64 I, .int .i64 K, .pointer (some ⟨x2, 0, none⟩), .pointer (some ⟨x3, 0, none⟩), .pointer (some ⟨x4, 0, none⟩), .pointer (some ⟨x5, 0, none⟩)]⟩ W (fun e W' => e = .returned (.int .i64 (lft a b I K)) /\ SatW w (Db w bm) (MapJ bm (lft a b)) mem W') := by
    intro i' k' I K h1 h2 h3 h4 h5 mem W hW
    refine (least_calls a b (some ⟨bA, oA, none⟩) (some ⟨bB, oB, none⟩) ca cb x2 x3 x4 x5 bm ha hb n i' k' I K h1 h2 h3 h4 h5 W (hw.sat hW)).mono ?_
    rintro e W' ⟨g1, g2, ents, clock, g3, g4⟩
    exact ⟨g1, satW_mapJ hW hDb g2 g3 g4⟩
   have c1 := IH (i + 1) (k + 1) ((i : Int) + 1) ((k : Int) + 1) (by omega) (by omega) (by omega) (by omega) (by omega)
   have c2 := IH (i + 1) k ((i : Int) + 1) (k : Int) (by omega) (by omega) (by omega) (by omega) (by omega)
   have c3 := IH i (k + 1) (i : Int) ((k : Int) + 1) (by omega) (by omega) (by omega) (by omega) (by omega)
   clear IH
   have b1 := lft_bd a b ((i : Int) + 1) ((k : Int) + 1) ha hb
   have b2 := lft_bd a b ((i : Int) + 1) k ha hb
   have b3 := lft_bd a b i ((k : Int) + 1) ha hb
   have b4 := bes_bd x y
   obtain ⟨G, hG⟩ : ∃ G, lft a b i k = G := ⟨_, rfl⟩
   rw [hG] at hs ⊢
   have hs := fun (_ : Unit) => hs
   repeat (first|refine lVa rfl rfl (by first|exact pEv rfl|exact vL0 rfl (by assumption) rfl (by rfl)|exact v_buildA rfl rfl rfl (by rfl)|fail) ?_|refine lNi ?_|refine cRg ?_|refine cSq ?_|refine xTh ?_|refine c_dec_f rfl (by first|omega|fail) ?_|refine cSk ?_|refine l_dec_f rfl rfl rfl rfl rfl (by first|omega|fail) ?_|fail)
   refine l_lookupF (b := bm) (G := lft a b) (i := i) (k := k) rfl rfl rfl rfl rfl rfl rfl rfl rfl ?_ ?_
   ·rw [hG]
    repeat (first|refine lVa rfl rfl (by first|exact pEv rfl|fail) ?_|refine lNi ?_|refine cRg ?_|refine cSq ?_|refine xTh ?_|refine c_false rfl ?_|refine cSk ?_|refine c_ret ?_|fail)
    exact x_ret rfl rfl (by repeat constructor) rfl (fun W hW => ⟨rfl, hfin hW⟩)
   ·repeat (first|refine lVa rfl rfl (by first|exact pEv rfl|fail) ?_|refine lNi ?_|refine cRg ?_|refine cSq ?_|refine xTh ?_|refine c_true rfl ?_|refine c_reads rfl (by decide +kernel) ?_|refine q_val rfl rfl (by first|exact v_add rfl rfl (by omega) (by omega)|exact pEv rfl|exact vL0 rfl (by assumption) rfl (by rfl)|exact v_index rfl rfl rfl rfl (by omega) (by omega) (by with_reducible first|exact idx2 _ _|fail)|fail) ?_|(refine q_call rfl rfl rfl (fun W hW => beside_calls x y W) ?_)|fail)
    refine q_callvJ rfl rfl rfl rfl rfl (fun W hW => c1 _ W hW) ?_
    repeat (first|refine q_val rfl rfl (by first|exact v_add rfl rfl (by omega) (by omega)|exact pEv rfl|exact vL0 rfl (by assumption) rfl (by rfl)|fail) ?_|fail)
    refine q_callvJ rfl rfl rfl rfl rfl (fun W hW => c2 _ W hW) ?_
    repeat (first|refine q_val rfl rfl (by first|exact v_add rfl rfl (by omega) (by omega)|exact pEv rfl|exact vL0 rfl (by assumption) rfl (by rfl)|fail) ?_|fail)
    refine q_callvJ rfl rfl rfl rfl rfl (fun W hW => c3 _ W hW) ?_
    repeat (first|refine lVa rfl rfl (by first|exact pEv rfl|exact vL0 rfl (by assumption) rfl (by rfl)|exact v_buildA rfl rfl rfl (by rfl)|fail) ?_|refine cRg ?_|refine xTh ?_|refine q_val rfl rfl (by first|exact v_add rfl rfl (by omega) (by omega)|exact pEv rfl|exact v_min3 rfl rfl rfl|fail) ?_|refine q_nil ?_|fail)
    refine l_noteF (b := bm) (G := lft a b) (i := i) (k := k) rfl hDb rfl rfl rfl (by rw [hG, hs ()]; rfl) rfl rfl rfl ?_
    repeat (first|refine lVa rfl rfl (by first|exact pEv rfl|fail) ?_|refine lNi ?_|refine cRg ?_|refine cSq ?_|refine xTh ?_|refine c_ret ?_|fail)
    exact x_ret rfl rfl (by repeat constructor) rfl (fun W hW => ⟨by rw [hs ()], hfin hW⟩)
end R41
end Go.Proofs

namespace Go.Proofs
open Go.RowKit Go.Kin Go.Kin.Cl
namespace R41
section
variable {P : Program} {N : Nat} {c : Cx} {Q : Exit -> Act -> World -> Prop} {env : List (Nat × Value)} {mem : List (Nat × Obj)} {L l : List Oper} {ty : TypeId} {pos : String} {af : Array Edge} {g : Option (Nat × Bool)}
theorem r_callvJ [Wide c.F] {f : FuncId} [Ent P f] {d : Nat} {x : Operand} {args : List Operand} {ats : Array TypeId} {vs fs cs ws : List Value} {v : Value} (hw : wantB L env g = some true) (hd : Nat.blt d N = true)
  (hx : evOp env x = some (.func (.func f) ⟨fs⟩ ⟨cs⟩)) (ha : evOps env args some = some vs) (hws : fs ++ vs ++ cs = ws)
  (hc : ∀ W, SatW c.w0 c.D c.J mem W -> Calls P f ⟨ws⟩ W fun e W' => e = .returned v /\ SatW c.w0 c.D c.J mem W')
  (k : RunL P N c L l Q ((d, v) :: env) mem) : RunL P N c L (⟨some d, .call ⟨.value x, ⟨args⟩, ats⟩, ty, pos, af, g⟩ :: l) Q env mem :=
 l_callv (ι := Unit) (v := fun _ => v) (mem' := fun _ => mem) hw hd hx ha hws (fun W hm => (hc W hm).mono fun _ _ ⟨h1, h2⟩ => ⟨(), h1, h2⟩) fun _ => k
end
def prE (p : Int × Int) : List Value := [.int .i64 p.1, .int .i64 p.2]
def flatP (l : List (Int × Int)) : List Value := (l.map prE).flatten
theorem flatP_snoc (l : List (Int × Int)) (p : Int × Int) : flatP (l ++ [p]) = flatP l ++ prE p := by unfold flatP; simp
theorem lft_nat (a b : List Int) {I K : Int} {i k : Nat} (hI : I = i) (hK : K = k) : lft a b I K = lf a b i k := by subst hI hK; rfl
/-- what Pair's error is -/
def prR (a b : List Int) : Int := if 64 < a.length ∨ 64 < b.length then 2 else if a.all isC = true /\ b.all isC = true then 0 else 410
def pairL (a b : List Int) : List (Int × Int) := prf a b 0 0
theorem pairL_len : ∀ (n i k : Nat) (a b : List Int), (a.length - i) + (b.length - k) <= n -> (prf a b i k).length <= (a.length - i) + (b.length - k) := by
 intro n
 induction n with
 | zero =>
  intro i k a b h
  unfold prf
  rw [List.drop_eq_nil_of_le (by omega), List.drop_eq_nil_of_le (by omega), best_nil_left]
  exact Nat.zero_le _
 | succ n ih =>
  intro i k a b h
  by_cases hi : i < a.length
  ·obtain ⟨x, hx⟩ : ∃ x, a[i]? = some x := ⟨_, List.getElem?_eq_getElem hi⟩
   by_cases hk : k < b.length
   ·obtain ⟨y, hy⟩ : ∃ y, b[k]? = some y := ⟨_, List.getElem?_eq_getElem hk⟩
    by_cases h1 : lf a b i k = bes x y + lf a b (i + 1) (k + 1)
    ·rw [prf_both hx hy h1, List.length_cons]
     have := ih (i + 1) (k + 1) a b (by omega)
     omega
    ·by_cases h2 : lf a b i k = 2 + lf a b (i + 1) k
     ·rw [prf_left hx hy h1 h2, List.length_cons]
      have := ih (i + 1) k a b (by omega)
      omega
     ·rw [prf_right hx hy h1 h2, List.length_cons]
      have := ih i (k + 1) a b (by omega)
      omega
   ·unfold prf
    rw [List.drop_eq_nil_of_le (show b.length <= k by omega), drop_get hx, best_left]
    show _ + 1 <= _
    have := ih (i + 1) k a b (by omega)
    unfold prf at this
    rw [List.drop_eq_nil_of_le (show b.length <= k by omega)] at this
    omega
  ·by_cases hk : k < b.length
   ·obtain ⟨y, hy⟩ : ∃ y, b[k]? = some y := ⟨_, List.getElem?_eq_getElem hk⟩
    unfold prf
    rw [List.drop_eq_nil_of_le (show a.length <= i by omega), drop_get hy, best_right]
    show _ + 1 <= _
    have := ih i (k + 1) a b (by omega)
    unfold prf at this
    rw [List.drop_eq_nil_of_le (show a.length <= i by omega)] at this
    omega
   ·unfold prf
    rw [List.drop_eq_nil_of_le (by omega), List.drop_eq_nil_of_le (by omega), best_nil_left]
    exact Nat.zero_le _
/-- the pairs so far -/
inductive LS where
 | zero
 | more (i k n bp c : Nat) (r : List Value) (l : List (Int × Int))
def LS.i : LS -> Nat
 | .zero => 0
 | .more i _ _ _ _ _ _ => i
def LS.k : LS -> Nat
 | .zero => 0
 | .more _ k _ _ _ _ _ => k
def LS.sv : LS -> Value
 | .zero => .slice Option.none 0 0
 | .more _ _ n bp c _ _ => .slice (Option.some ⟨bp, 0, Option.none⟩) n c
def LS.mem : LS -> List (Nat × Obj)
 | .zero => []
 | .more _ _ _ bp _ r l => [(bp, .cells ⟨flatP l ++ r⟩ 68 (0, 0))]
def LS.l : LS -> List (Int × Int)
 | .zero => []
 | .more _ _ _ _ _ _ l => l
def LS.ok (a b : List Int) : LS -> Prop
 | .zero => True
 | .more i k n _ c r l => 0 < n /\ n <= i + k /\ i <= a.length /\ k <= b.length /\ l.length = n /\ Grow 2 n (flatP l) c r
/-- what Pair does -/
def PairQ (a b : List Int) (w : World) (e : Ending) (w' : World) : Prop :=
 Below w.heap.size w w' /\ ((prR a b ≠ 0 /\ e = .returned (.tuple ⟨[.int .i64 0, .slice none 0 0, .int .i64 (prR a b)]⟩)) ∨ (prR a b = 0 /\ pairL a b = [] /\ e = .returned (.tuple ⟨[.int .i64 (ac a b), .slice none 0 0, .int .i64 0]⟩)) ∨
  (prR a b = 0 /\ pairL a b ≠ [] /\ ∃ bp cap rest, e = .returned (.tuple ⟨[.int .i64 (ac a b), .slice (some ⟨bp, 0, none⟩) (pairL a b).length cap, .int .i64 0]⟩) /\ w.heap.size <= bp /\ w'.heap[bp]? = some (.cells ⟨flatP (pairL a b) ++ rest⟩ 68 (0, 0))))

end R41
end Go.Proofs

/- Collating: the least cost of what is left, noted in a map. -/
import Derived.Test.YtajnkdgbpffinaaGreatRtDiv
import Derived.Test.YtajnkdgbpffinaaGreatEng29
import Derived.Test.YtajnkdgbpffinaaGreatClB
set_option maxRecDepth 100000
set_option maxHeartbeats 400000000
set_option linter.unusedSectionVars false
set_option linter.unusedVariables false
set_option linter.unusedSimpArgs false
namespace Go.Proofs
open Go.RowKit Go.Kin Go.Kin.Cl
namespace R41
/-- what is left -/
def lft (a b : List Int) (i k : Int) : Int := ac (a.drop i.toNat) (b.drop k.toNat)
def Db (w : World) (bm : Nat) : Nat -> Prop := fun k => k < w.heap.size /\ k ≠ bm
@[reducible] def capsL (x2 x3 x4 x5 : Nat) : List Value := [.pointer (some ⟨x2, 0, none⟩), .pointer (some ⟨x3, 0, none⟩), .pointer (some ⟨x4, 0, none⟩), .pointer (some ⟨x5, 0, none⟩)]
/-- the world in which the closure works -/
structure LW (a b : List Int) (A B : Option Addr) (ca cb x2 x3 x4 x5 bm : Nat) (w : World) : Prop where
 e2 : Ext w (Db w bm) x2 0 [.slice A a.length ca]
 e3 : Ext w (Db w bm) x3 0 [.slice B b.length cb]
 e4 : Ext w (Db w bm) x4 0 [.map (some bm)]
 e5 : Ext w (Db w bm) x5 0 [.func (.func 30) ⟨[]⟩ ⟨capsL x2 x3 x4 x5⟩]
 eA : ∀ (i : Nat) (x : Int), a[i]? = some x -> ∃ b o, A = some ⟨b, o, none⟩ /\ Ext w (Db w bm) b (o + i) [.int .i64 x]
 eB : ∀ (i : Nat) (x : Int), b[i]? = some x -> ∃ b o, B = some ⟨b, o, none⟩ /\ Ext w (Db w bm) b (o + i) [.int .i64 x]
 mp : ∃ ents clock, w.heap[bm]? = some (.map ⟨ents⟩ clock) /\ ∀ e ∈ ents, EntF (lft a b) e
theorem db_move {w W : World} {bm : Nat} (hS : Same (Db w bm) w W) {k : Nat} (h : Db w bm k) : Db W bm k := ⟨Nat.lt_of_lt_of_le h.1 hS.size, h.2⟩
theorem LW.move {a b : List Int} {A B : Option Addr} {ca cb x2 x3 x4 x5 bm : Nat} {w W : World} (h : LW a b A B ca cb x2 x3 x4 x5 bm w) (hS : Same (Db w bm) w W) (hm : ∃ ents clock, W.heap[bm]? = some (.map ⟨ents⟩ clock) /\ ∀ e ∈ ents, EntF (lft a b) e) : LW a b A B ca cb x2 x3 x4 x5 bm W :=
 ⟨h.e2.move hS fun _ => db_move hS, h.e3.move hS fun _ => db_move hS, h.e4.move hS fun _ => db_move hS, h.e5.move hS fun _ => db_move hS,
  fun i x hi => by obtain ⟨b, o, e, g⟩ := h.eA i x hi; exact ⟨b, o, e, g.move hS fun _ => db_move hS⟩,
  fun i x hi => by obtain ⟨b, o, e, g⟩ := h.eB i x hi; exact ⟨b, o, e, g.move hS fun _ => db_move hS⟩, hm⟩
theorem LW.sat {a b : List Int} {A B : Option Addr} {ca cb x2 x3 x4 x5 bm : Nat} {w W : World} {mem : List (Nat × Obj)} (h : LW a b A B ca cb x2 x3 x4 x5 bm w) (hW : SatW w (Db w bm) (MapJ bm (lft a b)) mem W) : LW a b A B ca cb x2 x3 x4 x5 bm W :=
 h.move hW.same hW.word.2.2
theorem lft_end {a b : List Int} {i k : Nat} (hi : i <= a.length) (hk : k <= b.length) (h : i = a.length ∨ k = b.length) : lft a b i k = 2 * ((a.length : Int) - i + b.length - k) := by
 unfold lft
 rw [Int.toNat_natCast, Int.toNat_natCast]
 rcases h with h | h
 ·rw [h, List.drop_length, ac_nil_left, List.length_drop]; omega
 ·rw [h, List.drop_length, ac_nil_right, List.length_drop]; omega
theorem lft_step {a b : List Int} {i k : Nat} {x y : Int} (hx : a[i]? = some x) (hy : b[k]? = some y) : lft a b i k = min (min (bes x y + lft a b ((i : Int) + 1) ((k : Int) + 1)) (2 + lft a b ((i : Int) + 1) k)) (2 + lft a b i ((k : Int) + 1)) := by
 obtain ⟨hi, hx⟩ := List.getElem?_eq_some_iff.1 hx
 obtain ⟨hk, hy⟩ := List.getElem?_eq_some_iff.1 hy
 unfold lft
 rw [show ((i : Int) + 1).toNat = i + 1 by omega, show ((k : Int) + 1).toNat = k + 1 by omega, Int.toNat_natCast, Int.toNat_natCast, List.drop_eq_getElem_cons hi, List.drop_eq_getElem_cons hk, hx, hy, ac_cons]
theorem lft_bd (a b : List Int) (i k : Int) (ha : a.length <= 64) (hb : b.length <= 64) : 0 <= lft a b i k /\ lft a b i k <= 256 := by
 have := ac_bd (a.drop i.toNat) (b.drop k.toNat)
 unfold lft
 rw [List.length_drop, List.length_drop] at this
 omega

theorem least_calls (a b : List Int) (A B : Option Addr) (ca cb x2 x3 x4 x5 bm : Nat) (ha : a.length <= 64) (hb : b.length <= 64) : ∀ (n i k : Nat) (I K : Int), I = i -> K = k -> i <= a.length -> k <= b.length -> (a.length - i) + (b.length - k) <= n -> ∀ w, LW a b A B ca cb x2 x3 x4 x5 bm w ->
  Calls Tryz.prog 30 ⟨[.int .i64 I, .int .i64 K] ++ capsL x2 x3 x4 x5⟩ w fun e w' => e = .returned (.int .i64 (lft a b I K)) /\ Same (fun k => k ≠ bm) w w' /\ ∃ ents clock, w'.heap[bm]? = some (.map ⟨ents⟩ clock) /\ ∀ e ∈ ents, EntF (lft a b) e
 | n, i, k, I, K, hI, hK, hi, hk, hn, w, hw => by
  subst hI hK
  have e2 := hw.e2
  have e3 := hw.e3
  have e4 := hw.e4
  have e5 := hw.e5
  have hDb : ¬ Db w bm bm := fun h => h.2 rfl
  have hsat : SatW w (Db w bm) (MapJ bm (lft a b)) [] w := by
   obtain ⟨ents, clock, h1, h2⟩ := hw.mp
   exact ⟨Same.refl _ _, fun _ h => h.1, List.nodup_nil, fun p hp => (by cases hp), closed_mapJ _ _, lt_of_heap h1, fun h => by simp [keys] at h, ents, clock, h1, h2⟩
  have hfin : ∀ {W : World} {mem : List (Nat × Obj)}, SatW w (Db w bm) (MapJ bm (lft a b)) mem W -> Same (fun k => k ≠ bm) w W /\ ∃ ents clock, W.heap[bm]? = some (.map ⟨ents⟩ clock) /\ ∀ e ∈ ents, EntF (lft a b) e :=
   fun hW => ⟨hW.same.monoLt fun b hb hne => ⟨hb, hne⟩, hW.word.2.2⟩
  refine fEn Tryz.func30 rfl Tryz.ntmps30 rfl rfl hsat ?_
  by_cases hend : i = a.length ∨ k = b.length
  ·have hv := lft_end hi hk hend
   by_cases h1 : i = a.length
   ·clear hend
    repeat (first|refine lVa rfl rfl (by first|exact v_add rfl rfl (by omega) (by omega)|exact v_sub rfl rfl (by omega) (by omega)|exact v_mul rfl rfl (by omega) (by omega)|exact pEv rfl|exact vL0 rfl (by assumption) rfl (by rfl)|fail) ?_|refine lNi ?_|refine cRg ?_|refine cSq ?_|refine xTh ?_|refine l_skip rfl rfl ?_|refine c_true rfl ?_|refine c_ret ?_|refine xTr ?_|refine l_dec_t rfl rfl rfl rfl rfl (by first|omega|fail) ?_|fail)
    exact x_ret rfl rfl (by repeat constructor) rfl (fun W hW => ⟨by rw [hv], hfin hW⟩)
   ·have h2 : k = b.length := by omega
    clear hend
    repeat (first|refine lVa rfl rfl (by first|exact v_add rfl rfl (by omega) (by omega)|exact v_sub rfl rfl (by omega) (by omega)|exact v_mul rfl rfl (by omega) (by omega)|exact pEv rfl|exact vL0 rfl (by assumption) rfl (by rfl)|fail) ?_|refine lNi ?_|refine cRg ?_|refine cSq ?_|refine xTh ?_|refine c_dec_t rfl (by first|omega|fail) ?_|refine c_ret ?_|refine xTr ?_|refine l_dec_f rfl rfl rfl rfl rfl (by first|omega|fail) ?_|fail)
    exact x_ret rfl rfl (by repeat constructor) rfl (fun W hW => ⟨by rw [hv], hfin hW⟩)
  have h1 : i < a.length := by omega
  have h2 : k < b.length := by omega
  clear hend
  obtain ⟨x, hx⟩ : ∃ x, a[i]? = some x := ⟨_, List.getElem?_eq_getElem h1⟩
  obtain ⟨y, hy⟩ : ∃ y, b[k]? = some y := ⟨_, List.getElem?_eq_getElem h2⟩
  obtain ⟨bA, oA, rfl, eA⟩ := hw.eA i x hx
  obtain ⟨bB, oB, rfl, eB⟩ := hw.eB k y hy
  have hs := lft_step hx hy
  cases n with
  | zero => omega
  | succ n =>
   have IH : ∀ (i' k' : Nat) (I K : Int), I = i' -> K = k' -> i' <= a.length -> k' <= b.length -> (a.length - i') + (b.length - k') <= n -> ∀ (mem : List (Nat × Obj)) (W : World), SatW w (Db w bm) (MapJ bm (lft a b)) mem W ->
     Calls Tryz.prog 30 ⟨[.int .i64 I, .int .i64 K, .pointer (some ⟨x2, 0, none⟩), .pointer (some ⟨x3, 0, none⟩), .pointer (some ⟨x4, 0, none⟩), .pointer (some ⟨x5, 0, none⟩)]⟩ W (fun e W' => e = .returned (.int .i64 (lft a b I K)) /\ SatW w (Db w bm) (MapJ bm (lft a b)) mem W') := by
    intro i' k' I K h1 h2 h3 h4 h5 mem W hW
    refine (least_calls a b (some ⟨bA, oA, none⟩) (some ⟨bB, oB, none⟩) ca cb x2 x3 x4 x5 bm ha hb n i' k' I K h1 h2 h3 h4 h5 W (hw.sat hW)).mono ?_
    rintro e W' ⟨g1, g2, ents, clock, g3, g4⟩
    exact ⟨g1, satW_mapJ hW hDb g2 g3 g4⟩
   have c1 := IH (i + 1) (k + 1) ((i : Int) + 1) ((k : Int) + 1) (by omega) (by omega) (by omega) (by omega) (by omega)
   have c2 := IH (i + 1) k ((i : Int) + 1) (k : Int) (by omega) (by omega) (by omega) (by omega) (by omega)
   have c3 := IH i (k + 1) (i : Int) ((k : Int) + 1) (by omega) (by omega) (by omega) (by omega) (by omega)
   clear IH
   have b1 := lft_bd a b ((i : Int) + 1) ((k : Int) + 1) ha hb
   have b2 := lft_bd a b ((i : Int) + 1) k ha hb
   have b3 := lft_bd a b i ((k : Int) + 1) ha hb
   have b4 := bes_bd x y
   obtain ⟨G, hG⟩ : ∃ G, lft a b i k = G := ⟨_, rfl⟩
   rw [hG] at hs ⊢
   have hs := fun (_ : Unit) => hs
   repeat (first|refine lVa rfl rfl (by first|exact pEv rfl|exact vL0 rfl (by assumption) rfl (by rfl)|exact v_buildA rfl rfl rfl (by rfl)|fail) ?_|refine lNi ?_|refine cRg ?_|refine cSq ?_|refine xTh ?_|refine c_dec_f rfl (by first|omega|fail) ?_|refine cSk ?_|refine l_dec_f rfl rfl rfl rfl rfl (by first|omega|fail) ?_|fail)
   refine l_lookupF (b := bm) (G := lft a b) (i := i) (k := k) rfl rfl rfl rfl rfl rfl rfl rfl rfl ?_ ?_
   ·rw [hG]
    repeat (first|refine lVa rfl rfl (by first|exact pEv rfl|fail) ?_|refine lNi ?_|refine cRg ?_|refine cSq ?_|refine xTh ?_|refine c_false rfl ?_|refine cSk ?_|refine c_ret ?_|fail)
    exact x_ret rfl rfl (by repeat constructor) rfl (fun W hW => ⟨rfl, hfin hW⟩)
   ·repeat (first|refine lVa rfl rfl (by first|exact pEv rfl|fail) ?_|refine lNi ?_|refine cRg ?_|refine cSq ?_|refine xTh ?_|refine c_true rfl ?_|refine c_reads rfl (by decide +kernel) ?_|refine q_val rfl rfl (by first|exact v_add rfl rfl (by omega) (by omega)|exact pEv rfl|exact vL0 rfl (by assumption) rfl (by rfl)|exact v_index rfl rfl rfl rfl (by omega) (by omega) (by with_reducible first|exact idx2 _ _|fail)|fail) ?_|(refine q_call rfl rfl rfl (fun W hW => beside_calls x y W) ?_)|fail)
    refine q_callvJ rfl rfl rfl rfl rfl (fun W hW => c1 _ W hW) ?_
    repeat (first|refine q_val rfl rfl (by first|exact v_add rfl rfl (by omega) (by omega)|exact pEv rfl|exact vL0 rfl (by assumption) rfl (by rfl)|fail) ?_|fail)
    refine q_callvJ rfl rfl rfl rfl rfl (fun W hW => c2 _ W hW) ?_
    repeat (first|refine q_val rfl rfl (by first|exact v_add rfl rfl (by omega) (by omega)|exact pEv rfl|exact vL0 rfl (by assumption) rfl (by rfl)|fail) ?_|fail)
    refine q_callvJ rfl rfl rfl rfl rfl (fun W hW => c3 _ W hW) ?_
    repeat (first|refine lVa rfl rfl (by first|exact pEv rfl|exact vL0 rfl (by assumption) rfl (by rfl)|exact v_buildA rfl rfl rfl (by rfl)|fail) ?_|refine cRg ?_|refine xTh ?_|refine q_val rfl rfl (by first|exact v_add rfl rfl (by omega) (by omega)|exact pEv rfl|exact v_min3 rfl rfl rfl|fail) ?_|refine q_nil ?_|fail)
    refine l_noteF (b := bm) (G := lft a b) (i := i) (k := k) rfl hDb rfl rfl rfl (by rw [hG, hs ()]; rfl) rfl rfl rfl ?_
    repeat (first|refine lVa rfl rfl (by first|exact pEv rfl|fail) ?_|refine lNi ?_|refine cRg ?_|refine cSq ?_|refine xTh ?_|refine c_ret ?_|fail)
    exact x_ret rfl rfl (by repeat constructor) rfl (fun W hW => ⟨by rw [hs ()], hfin hW⟩)
end R41
end Go.Proofs

namespace Go.Kin.Cl
theorem best_left {x : Int} {a : List Int} : best (x :: a) [] = .left :: best a [] := by rw [best_nil_right, best_nil_right]; rfl
theorem best_right {y : Int} {b : List Int} : best [] (y :: b) = .right :: best [] b := by rw [best_nil_left, best_nil_left]; rfl
theorem ac_left {x : Int} {a : List Int} : ac (x :: a) [] = 2 + ac a [] := by rw [ac_nil_right, ac_nil_right, List.length_cons]; omega
/-- the pairs that are left from two places on -/
def prf (a b : List Int) (i k : Nat) : List (Int × Int) := prs (best (a.drop i) (b.drop k)) i k
def lf (a b : List Int) (i k : Nat) : Int := ac (a.drop i) (b.drop k)
variable {a b : List Int} {i k : Nat} {x y : Int}
theorem drop_get {l : List Int} {i : Nat} {x : Int} (h : l[i]? = some x) : l.drop i = x :: l.drop (i + 1) := by
 obtain ⟨h1, h2⟩ := List.getElem?_eq_some_iff.1 h
 rw [List.drop_eq_getElem_cons h1, h2]
theorem prf_both (hx : a[i]? = some x) (hy : b[k]? = some y) (h : lf a b i k = bes x y + lf a b (i + 1) (k + 1)) : prf a b i k = ((i : Int) + 1, (k : Int) + 1) :: prf a b (i + 1) (k + 1) := by
 unfold lf at h
 unfold prf
 rw [drop_get hx, drop_get hy] at h ⊢
 rw [best_cons, if_pos h]; rfl
theorem prf_left (hx : a[i]? = some x) (hy : b[k]? = some y) (h : lf a b i k ≠ bes x y + lf a b (i + 1) (k + 1)) (h2 : lf a b i k = 2 + lf a b (i + 1) k) : prf a b i k = ((i : Int) + 1, 0) :: prf a b (i + 1) k := by
 unfold lf at h h2
 unfold prf
 rw [drop_get hx, drop_get hy] at h h2 ⊢
 rw [best_cons, if_neg h, if_pos h2]; rfl
theorem prf_right (hx : a[i]? = some x) (hy : b[k]? = some y) (h : lf a b i k ≠ bes x y + lf a b (i + 1) (k + 1)) (h2 : lf a b i k ≠ 2 + lf a b (i + 1) k) : prf a b i k = (0, (k : Int) + 1) :: prf a b i (k + 1) := by
 unfold lf at h h2
 unfold prf
 rw [drop_get hx, drop_get hy] at h h2 ⊢
 rw [best_cons, if_neg h, if_neg h2]; rfl
theorem prf_lefts (hx : a[i]? = some x) (hk : k = b.length) : prf a b i k = ((i : Int) + 1, 0) :: prf a b (i + 1) k /\ lf a b i k = 2 + lf a b (i + 1) k := by
 unfold prf lf
 rw [drop_get hx, hk, List.drop_length, best_left, ac_left]; exact ⟨rfl, rfl⟩
theorem prf_rights (hi : i = a.length) (hy : b[k]? = some y) : prf a b i k = (0, (k : Int) + 1) :: prf a b i (k + 1) := by
 unfold prf
 rw [drop_get hy, hi, List.drop_length, best_right]; rfl
theorem prf_end (hi : i = a.length) (hk : k = b.length) : prf a b i k = [] := by
 unfold prf
 rw [hi, hk, List.drop_length, List.drop_length, best_nil_left]; rfl
theorem lf_bd (a b : List Int) (i k : Nat) (ha : a.length <= 64) (hb : b.length <= 64) : 0 <= lf a b i k /\ lf a b i k <= 256 := by
 have := ac_bd (a.drop i) (b.drop k)
 unfold lf
 rw [List.length_drop, List.length_drop] at this
 omega
end Go.Kin.Cl

namespace Go.Proofs
open Go.RowKit Go.Kin Go.Kin.Cl
namespace R41
section
variable {P : Program} {N : Nat} {c : Cx} {Q : Exit -> Act -> World -> Prop} {env : List (Nat × Value)} {mem : List (Nat × Obj)} {L l : List Oper} {ty : TypeId} {pos : String} {af : Array Edge} {g : Option (Nat × Bool)}
theorem r_callvJ [Wide c.F] {f : FuncId} [Ent P f] {d : Nat} {x : Operand} {args : List Operand} {ats : Array TypeId} {vs fs cs ws : List Value} {v : Value} (hw : wantB L env g = some true) (hd : Nat.blt d N = true)
  (hx : evOp env x = some (.func (.func f) ⟨fs⟩ ⟨cs⟩)) (ha : evOps env args some = some vs) (hws : fs ++ vs ++ cs = ws)
  (hc : ∀ W, SatW c.w0 c.D c.J mem W -> Calls P f ⟨ws⟩ W fun e W' => e = .returned v /\ SatW c.w0 c.D c.J mem W')
  (k : RunL P N c L l Q ((d, v) :: env) mem) : RunL P N c L (⟨some d, .call ⟨.value x, ⟨args⟩, ats⟩, ty, pos, af, g⟩ :: l) Q env mem :=
 l_callv (ι := Unit) (v := fun _ => v) (mem' := fun _ => mem) hw hd hx ha hws (fun W hm => (hc W hm).mono fun _ _ ⟨h1, h2⟩ => ⟨(), h1, h2⟩) fun _ => k
end
def prE (p : Int × Int) : List Value := [.int .i64 p.1, .int .i64 p.2]
def flatP (l : List (Int × Int)) : List Value := (l.map prE).flatten
theorem flatP_snoc (l : List (Int × Int)) (p : Int × Int) : flatP (l ++ [p]) = flatP l ++ prE p := by unfold flatP; simp
theorem lft_nat (a b : List Int) {I K : Int} {i k : Nat} (hI : I = i) (hK : K = k) : lft a b I K = lf a b i k := by subst hI hK; rfl
/-- what Pair's error is -/
def prR (a b : List Int) : Int := if 64 < a.length ∨ 64 < b.length then 2 else if a.all isC = true /\ b.all isC = true then 0 else 410
def pairL (a b : List Int) : List (Int × Int) := prf a b 0 0
theorem pairL_len : ∀ (n i k : Nat) (a b : List Int), (a.length - i) + (b.length - k) <= n -> (prf a b i k).length <= (a.length - i) + (b.length - k) := by
 intro n
 induction n with
 | zero =>
  intro i k a b h
  unfold prf
  rw [List.drop_eq_nil_of_le (by omega), List.drop_eq_nil_of_le (by omega), best_nil_left]
  exact Nat.zero_le _
 | succ n ih =>
  intro i k a b h
  by_cases hi : i < a.length
  ·obtain ⟨x, hx⟩ : ∃ x, a[i]? = some x := ⟨_, List.getElem?_eq_getElem hi⟩
   by_cases hk : k < b.length
   ·obtain ⟨y, hy⟩ : ∃ y, b[k]? = some y := ⟨_, List.getElem?_eq_getElem hk⟩
    by_cases h1 : lf a b i k = bes x y + lf a b (i + 1) (k + 1)
    ·rw [prf_both hx hy h1, List.length_cons]
     have := ih (i + 1) (k + 1) a b (by omega)
     omega
    ·by_cases h2 : lf a b i k = 2 + lf a b (i + 1) k
     ·rw [prf_left hx hy h1 h2, List.length_cons]
      have := ih (i + 1) k a b (by omega)
      omega
     ·rw [prf_right hx hy h1 h2, List.length_cons]
      have := ih i (k + 1) a b (by omega)
      omega
   ·unfold prf
    rw [List.drop_eq_nil_of_le (show b.length <= k by omega), drop_get hx, best_left]
    show _ + 1 <= _
    have := ih (i + 1) k a b (by omega)
    unfold prf at this
    rw [List.drop_eq_nil_of_le (show b.length <= k by omega)] at this
    omega
  ·by_cases hk : k < b.length
   ·obtain ⟨y, hy⟩ : ∃ y, b[k]? = some y := ⟨_, List.getElem?_eq_getElem hk⟩
    unfold prf
    rw [List.drop_eq_nil_of_le (show a.length <= i by omega), drop_get hy, best_right]
    show _ + 1 <= _
    have := ih i (k + 1) a b (by omega)
    unfold prf at this
    rw [List.drop_eq_nil_of_le (show a.length <= i by omega)] at this
    omega
   ·unfold prf
    rw [List.drop_eq_nil_of_le (by omega), List.drop_eq_nil_of_le (by omega), best_nil_left]
    exact Nat.zero_le _
/-- the pairs so far -/
inductive LS where
 | zero
 | more (i k n bp c : Nat) (r : List Value) (l : List (Int × Int))
def LS.i : LS -> Nat
 | .zero => 0
 | .more i _ _ _ _ _ _ => i
def LS.k : LS -> Nat
 | .zero => 0
 | .more _ k _ _ _ _ _ => k
def LS.sv : LS -> Value
 | .zero => .slice Option.none 0 0
 | .more _ _ n bp c _ _ => .slice (Option.some ⟨bp, 0, Option.none⟩) n c
def LS.mem : LS -> List (Nat × Obj)
 | .zero => []
 | .more _ _ _ bp _ r l => [(bp, .cells ⟨flatP l ++ r⟩ 54 (0, 0))]
def LS.l : LS -> List (Int × Int)
 | .zero => []
 | .more _ _ _ _ _ _ l => l
def LS.ok (a b : List Int) : LS -> Prop
 | .zero => True
 | .more i k n _ c r l => 0 < n /\ n <= i + k /\ i <= a.length /\ k <= b.length /\ l.length = n /\ Grow 2 n (flatP l) c r
/-- what Pair does -/
def PairQ (a b : List Int) (w : World) (e : Ending) (w' : World) : Prop :=
 Under w.heap.size w w' /\ ((prR a b ≠ 0 /\ e = .returned (.tuple ⟨[.int .i64 0, .slice none 0 0, .int .i64 (prR a b)]⟩)) ∨ (prR a b = 0 /\ pairL a b = [] /\ e = .returned (.tuple ⟨[.int .i64 (ac a b), .slice none 0 0, .int .i64 0]⟩)) ∨
  (prR a b = 0 /\ pairL a b ≠ [] /\ ∃ bp cap rest, e = .returned (.tuple ⟨[.int .i64 (ac a b), .slice (some ⟨bp, 0, none⟩) (pairL a b).length cap, .int .i64 0]⟩) /\ w.heap.size <= bp /\ w'.heap[bp]? = some (.cells ⟨flatP (pairL a b) ++ rest⟩ 54 (0, 0))))

end R41
end Go.Proofs

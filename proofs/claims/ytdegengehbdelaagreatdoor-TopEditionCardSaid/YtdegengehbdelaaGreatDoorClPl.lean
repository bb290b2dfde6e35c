/- Collating: the codes of a witness. Printed by gen_codes.py. -/
import Derived.Test.YtdegengehbdelaaGreatDoorClL
import Derived.Test.YtdegengehbdelaaGreatDoorEng25
import Derived.Test.YtdegengehbdelaaGreatDoorClPair
set_option maxRecDepth 100000
set_option maxHeartbeats 400000000
set_option linter.unusedSectionVars false
set_option linter.unusedVariables false
set_option linter.unusedSimpArgs false
namespace Go.Proofs
open Go.RowKit Go.Kin Go.Kin.Cl
namespace R41
/-- rows in memory that is new -/
structure Fr (w w' : World) (A : Option Addr) (sz : Nat) (rows : List (List Value)) : Prop where
 at' : Kin.At w' A sz rows
 new : ∀ a, A = some a -> rows ≠ [] -> w.heap.size <= a.block
theorem Fr.nil {w w' : World} {A : Option Addr} {sz : Nat} : Fr w w' A sz [] := ⟨fun i cs h => by simp at h, fun _ _ h => absurd rfl h⟩
theorem SatW.lts {w0 : World} {D : Nat -> Prop} {J : (Nat -> Prop) -> World -> Prop} {mem : List (Nat × Obj)} {W : World} (h : SatW w0 D J mem W) : ∀ k ∈ mem.map (·.1), k < W.heap.size := fun k hk => by
 obtain ⟨p, hp, rfl⟩ := List.mem_map.1 hk
 exact h.lt hp
def flatI (l : List Int) : List Value := (l.map inE).flatten
theorem flatI_len (l : List Int) : (flatI l).length = l.length * 1 := by
 induction l with
 | nil => rfl
 | cons x l ih => unfold flatI at ih ⊢; rw [List.map_cons, List.flatten_cons, List.length_append, ih, List.length_cons]; show 1 + _ = _; omega
theorem flatI_map : ∀ l : List Int, flatI l = l.map fun x => Value.int .i64 x
 | [] => rfl
 | x :: l => congrArg (List.cons (Value.int .i64 x)) (flatI_map l)
theorem flatI_snoc (l : List Int) (x : Int) : flatI (l ++ [x]) = flatI l ++ [.int .i64 x] := by unfold flatI; rw [List.map_append, List.flatten_append]; rfl
/-- a list of numbers that grows -/
inductive IS where
 | zero
 | more (n bp c : Nat) (r : List Value) (l : List Int)
def IS.sv : IS -> Value
 | .zero => .slice Option.none 0 0
 | .more n bp c _ _ => .slice (Option.some ⟨bp, 0, Option.none⟩) n c
def IS.mem : IS -> List (Nat × Obj)
 | .zero => []
 | .more _ bp _ r l => [(bp, .cells ⟨flatI l ++ r⟩ 3 (0, 0))]
def IS.l : IS -> List Int
 | .zero => []
 | .more _ _ _ _ l => l
def IS.ok : IS -> Prop
 | .zero => True
 | .more n _ c r l => 0 < n /\ l.length = n /\ Grow 1 n (flatI l) c r
/-- the codes of readings -/
def cod (r : Rd) : Int := if r.lost = true then 8589934592 else (codA r.s).1
def cds (x : Wi) : List Int := x.rs.map cod
theorem cod_t (s : Sg) : cod ⟨true, s⟩ = 8589934592 := if_pos rfl
theorem cod_f (s : Sg) : cod ⟨false, s⟩ = (codA s).1 := if_neg (by simp)
theorem cds_len (x : Wi) : (cds x).length = x.rs.length := List.length_map ..
/-- a list of numbers in new memory, or nil -/
def RowQ (l : List Int) (w : World) (e : Ending) (w' : World) : Prop :=
 Below w.heap.size w w' /\ ((l = [] /\ e = .returned (.slice none 0 0)) ∨ (l ≠ [] /\ ∃ b cap rest, e = .returned (.slice (some ⟨b, 0, none⟩) l.length cap) /\ Grow 1 l.length (flatI l) cap rest /\ w.heap.size <= b /\ w'.heap[b]? = some (.cells ⟨flatI l ++ rest⟩ 3 (0, 0))))
def CodesQ (x : Wi) (w : World) (e : Ending) (w' : World) : Prop := RowQ (cds x) w e w'
theorem fr_blk {w w' : World} {b : Nat} {l : List Int} {r : List Value} (hb : w.heap.size <= b) (h : w'.heap[b]? = some (.cells ⟨flatI l ++ r⟩ 3 (0, 0))) : Fr w w' (some ⟨b, 0, none⟩) 1 (l.map inE) := by
 refine ⟨fun i cs hi => ⟨b, 0, rfl, fun j v hv => ?_⟩, fun a e _ => by cases e; exact hb⟩
 have hi2 : i < l.length := by have := (List.getElem?_eq_some_iff.1 hi).1; rwa [List.length_map] at this
 rw [List.getElem?_map, List.getElem?_eq_getElem hi2, Option.map_some, Option.some.injEq] at hi
 subst hi
 have hj : j = 0 := by
  have := (List.getElem?_eq_some_iff.1 hv).1
  unfold inE at this
  simp only [List.length_cons, List.length_nil] at this
  omega
 subst hj
 unfold World.cell?
 rw [h]
 have e1 : (flatI l ++ r)[i]? = some (.int .i64 l[i]) := by
  rw [List.getElem?_append_left (by rw [flatI_len]; omega)]
  rw [flatI_map]
  rw [List.getElem?_map, List.getElem?_eq_getElem hi2]; rfl
 rw [show 0 + i * 1 + 0 = i by omega]
 unfold inE at hv
 cases hv
 simpa using e1
/-- what the codes are to a caller that only reads them -/
theorem RowQ.fr {l : List Int} {w w' : World} {e : Ending} (h : RowQ l w e w') : ∃ A cap, e = .returned (.slice A l.length cap) /\ Below w.heap.size w w' /\ Fr w w' A 1 (l.map inE) := by
 obtain ⟨h1, ⟨h2, h3⟩ | ⟨h2, b, cap, rest, h3, h4, h5, h6⟩⟩ := h
 ·exact ⟨none, 0, by rw [h2]; exact h3, h1, by rw [h2]; exact Fr.nil⟩
 ·exact ⟨_, cap, h3, h1, fr_blk h5 h6⟩
theorem take_snoc {α β : Type} {l : List α} {f : α -> β} {k : Nat} {x : α} (h : l[k]? = some x) : (l.take (k + 1)).map f = (l.take k).map f ++ [f x] := by rw [List.take_add_one, h]; simp

theorem codes_calls (x : Wi) (w : World) (hx : WiOK w x) (hl : x.rs.length <= 100000) : Calls Tryz.prog 16 ⟨[.agg ⟨wiE x⟩]⟩ w (CodesQ x w) := by
 refine fEn Tryz.func16 rfl Tryz.ntmps16 rfl rfl (sWn w) ?_
 repeat (first|refine lVa rfl rfl (by first|exact pEv rfl|exact vLd rfl (by repeat constructor) rfl (by rfl)|fail) ?_|refine lNi ?_|refine cRg ?_|refine cSq ?_|refine xTh ?_|refine r_box rfl rfl rfl rfl (fun _ => ?_)|refine cBl ?_|fail)
 rename_i b0
 refine c_loop (ι := Nat × IS) (fun (k, s) => k <= x.rs.length /\ s.ok /\ (Unit -> s.l = (x.rs.take k).map cod)) (fun (k, s) => [(7, .slice x.A x.rs.length x.cap), (8, .int .i64 x.rs.length), (9, .int .i64 k), (2, s.sv)]) (fun (k, s) => s.mem) (fun (k, s) => x.rs.length - k) (0, .zero) ⟨by omega, trivial, fun _ => rfl⟩ (by repeat (first|exact .nil|refine .cons rfl (by first|rfl|(congr 1; done)|exact congrArg _ (by omega)|(simp; done)) ?_)) (by repeat (first|exact .nil|refine .keep (by first|rfl|assumption) ?_|refine .drop ?_|exact MSub.refl _)) ?_
 rintro ⟨k, s⟩ ⟨hk, hs, hM⟩
 have hlen : s.l.length = k := by rw [hM (), List.length_map, List.length_take]; exact Nat.min_eq_left hk
 by_cases hlt : k < x.rs.length
 rotate_left
 ·have hkl : k = x.rs.length := by omega
  subst hkl
  have hfin := hM ()
  rw [List.take_length] at hfin
  clear hM
  rcases s with _ | ⟨n, bp, c, r, l⟩
  ·have he : cds x = [] := hfin.symm
   repeat (first|refine lVa rfl rfl (by first|exact pEv rfl|fail) ?_|refine lNi ?_|refine cRg ?_|refine cSq ?_|refine xTh ?_|refine c_dec_f rfl (by first|omega|fail) ?_|refine c_ret ?_|refine c_exit ?_|refine xTe ?_|refine xBs ?_|fail)
   exact x_ret rfl rfl (by repeat constructor) rfl (fun W hW => ⟨hW.below, .inl ⟨he, rfl⟩⟩)
  ·obtain ⟨g1, g2, g3⟩ := hs
   have he : cds x = l := hfin.symm
   have hn : n = (cds x).length := by rw [he, g2]
   simp only [IS.sv, IS.mem, List.cons_append, List.nil_append]
   repeat (first|refine lVa rfl rfl (by first|exact pEv rfl|fail) ?_|refine lNi ?_|refine cRg ?_|refine cSq ?_|refine xTh ?_|refine c_dec_f rfl (by first|omega|fail) ?_|refine c_ret ?_|refine c_exit ?_|refine xTe ?_|refine xBs ?_|fail)
   exact x_ret rfl rfl (by repeat constructor) rfl (fun W hW => ⟨hW.below, .inr ⟨by rw [he]; intro h; rw [h, List.length_nil] at g2; omega, bp, c, r, by first|(rw [<- hn]; done)|(rw [<- hn]; rfl), by rw [<- hn, he]; exact g3, Nat.le_of_not_lt (hW.own (bp, _) (by repeat constructor)).1, by rw [he]; exact (hW.own (bp, _) (by repeat constructor)).2⟩⟩)
 obtain ⟨r, hr⟩ : ∃ r, x.rs[k]? = some r := ⟨_, List.getElem?_eq_getElem hlt⟩
 obtain ⟨b2, o2, hA2, e2⟩ := ext_at hx.at' hr
 have g2 := ext_of e2
 have hts := take_snoc (f := cod) hr
 simp only [hA2]
 obtain ⟨lost, sg⟩ := r
 rcases s with _ | ⟨n, bp, c, rr, l⟩
 ·cases lost with
  | true =>
   have hk0 : k = 0 := hlen.symm
   subst hk0
   simp only [IS.sv, IS.mem, List.nil_append]
   rw [cod_t] at hts
   have hM' : Unit -> [8589934592] = (x.rs.take (0 + 1)).map cod := fun _ => by rw [hts]; rfl
   clear hts hM
   repeat (first|refine lVa rfl rfl (by first|exact pEv rfl|exact vLd rfl (by repeat constructor) rfl (by rfl)|exact vL0 rfl (by assumption) rfl (by rfl)|exact v_index rfl rfl rfl rfl (by omega) (by omega) (by with_reducible first|exact idx4 _ _ _|fail)|fail) ?_|refine lNi ?_|refine cRg ?_|refine cSq ?_|refine xTh ?_|refine r_alloc rfl rfl rfl (by first|exact aggL|fail) (fun _ => ?_)|refine rSt rfl rfl rfl rfl rfl rfl rfl (by repeat constructor) (by rfl) ?_|refine r_buildSlice rfl rfl rfl rfl rfl rfl (by rfl) (fun _ => ?_)|refine c_false rfl ?_|refine c_dec_t rfl (by first|omega|fail) ?_|refine cBl ?_|refine cSk ?_|fail)
   refine r_append_nil (m := 1) (ys := [.int .i64 (8589934592)]) rfl rfl rfl rfl rfl rfl (news_own (by repeat constructor)) rfl rfl (by decide) (by decide) (by decide) (fun b7 c7 r7 hg7 => ?_)
   repeat (first|refine lVa rfl rfl (by first|exact v_add rfl rfl (by omega) (by omega)|exact pEv rfl|fail) ?_|refine lNi ?_|refine cRg ?_|refine xTh ?_|refine x_block ?_|fail)
   exact x_back (0 + 1, .more 1 b7 c7 r7 [8589934592]) ⟨hlt, ⟨by decide, rfl, hg7⟩, hM'⟩ (by simp only; omega) (by repeat (first|exact .nil|refine .cons rfl (by first|rfl|(congr 1; done)|exact congrArg _ (by omega)|(simp; done)) ?_)) (by repeat (first|exact .nil|refine .keep (by first|rfl|assumption) ?_|refine .drop ?_|exact MSub.refl _))
  | false =>
   have hk0 : k = 0 := hlen.symm
   subst hk0
   simp only [IS.sv, IS.mem, List.nil_append]
   rw [cod_f] at hts
   have hM' : Unit -> [(codA sg).1] = (x.rs.take (0 + 1)).map cod := fun _ => by rw [hts]; rfl
   clear hts hM
   repeat (first|refine lVa rfl rfl (by first|exact pEv rfl|exact vLd rfl (by repeat constructor) rfl (by rfl)|exact vL0 rfl (by assumption) rfl (by rfl)|exact v_index rfl rfl rfl rfl (by omega) (by omega) (by with_reducible first|exact idx4 _ _ _|fail)|fail) ?_|refine lNi ?_|refine cRg ?_|refine cSq ?_|refine xTh ?_|refine r_alloc rfl rfl rfl (by first|exact aggL|fail) (fun _ => ?_)|refine rSt rfl rfl rfl rfl rfl rfl rfl (by repeat constructor) (by rfl) ?_|refine c_true rfl ?_|refine c_dec_t rfl (by first|omega|fail) ?_|refine cBl ?_|refine cSk ?_|fail)
   refine r_call rfl rfl rfl (fun W hW => Code_calls sg W) ?_
   unfold v2
   repeat (first|refine lVa rfl rfl (by first|exact pEv rfl|fail) ?_|refine lNi ?_|refine cRg ?_|refine xTh ?_|refine r_buildSlice rfl rfl rfl rfl rfl rfl (by rfl) (fun _ => ?_)|fail)
   refine r_append_nil (m := 1) (ys := [.int .i64 ((codA sg).1)]) rfl rfl rfl rfl rfl rfl (news_own (by repeat constructor)) rfl rfl (by decide) (by decide) (by decide) (fun b7 c7 r7 hg7 => ?_)
   repeat (first|refine lVa rfl rfl (by first|exact v_add rfl rfl (by omega) (by omega)|exact pEv rfl|fail) ?_|refine lNi ?_|refine cRg ?_|refine xTh ?_|refine x_block ?_|fail)
   exact x_back (0 + 1, .more 1 b7 c7 r7 [(codA sg).1]) ⟨hlt, ⟨by decide, rfl, hg7⟩, hM'⟩ (by simp only; omega) (by repeat (first|exact .nil|refine .cons rfl (by first|rfl|(congr 1; done)|exact congrArg _ (by omega)|(simp; done)) ?_)) (by repeat (first|exact .nil|refine .keep (by first|rfl|assumption) ?_|refine .drop ?_|exact MSub.refl _))
 ·cases lost with
  | true =>
   obtain ⟨q1, q2, q3⟩ := hs
   simp only [IS.l] at hlen hM
   simp only [IS.sv, IS.mem, List.cons_append, List.nil_append]
   rw [cod_t] at hts
   have hM' : Unit -> l ++ [8589934592] = (x.rs.take (k + 1)).map cod := fun _ => by rw [hts, <- hM ()]
   clear hts hM
   repeat (first|refine lVa rfl rfl (by first|exact pEv rfl|exact vLd rfl (by repeat constructor) rfl (by rfl)|exact vL0 rfl (by assumption) rfl (by rfl)|exact v_index rfl rfl rfl rfl (by omega) (by omega) (by with_reducible first|exact idx4 _ _ _|fail)|fail) ?_|refine lNi ?_|refine cRg ?_|refine cSq ?_|refine xTh ?_|refine r_alloc rfl rfl rfl (by first|exact aggL|fail) (fun _ => ?_)|refine rSt rfl rfl rfl rfl rfl rfl rfl (by repeat constructor) (by rfl) ?_|refine r_buildSlice rfl rfl rfl rfl rfl rfl (by rfl) (fun _ => ?_)|refine c_false rfl ?_|refine c_dec_t rfl (by first|omega|fail) ?_|refine cBl ?_|refine cSk ?_|fail)
   refine r_append (m := 1) (ys := [.int .i64 (8589934592)]) rfl rfl rfl rfl rfl rfl (news_own (by repeat constructor)) (by repeat (first|exact Rem.head|apply Rem.tail)) q3 rfl rfl (by decide) (by omega) (by unfold maxLen; omega) (fun b7 c7 r7 hg7 => ?_)
   rw [<- flatI_snoc] at hg7 ⊢
   repeat (first|refine lVa rfl rfl (by first|exact v_add rfl rfl (by omega) (by omega)|exact pEv rfl|fail) ?_|refine lNi ?_|refine cRg ?_|refine xTh ?_|refine x_block ?_|fail)
   exact x_back (k + 1, .more (n + 1) b7 c7 r7 (l ++ [8589934592])) ⟨hlt, ⟨by omega, by rw [List.length_append, q2]; rfl, hg7⟩, hM'⟩ (by simp only; omega) (by repeat (first|exact .nil|refine .cons rfl (by first|rfl|(congr 1; done)|exact congrArg _ (by omega)|(simp; done)) ?_)) (by repeat (first|exact .nil|refine .keep (by first|rfl|assumption) ?_|refine .drop ?_|exact MSub.refl _))
  | false =>
   obtain ⟨q1, q2, q3⟩ := hs
   simp only [IS.l] at hlen hM
   simp only [IS.sv, IS.mem, List.cons_append, List.nil_append]
   rw [cod_f] at hts
   have hM' : Unit -> l ++ [(codA sg).1] = (x.rs.take (k + 1)).map cod := fun _ => by rw [hts, <- hM ()]
   clear hts hM
   repeat (first|refine lVa rfl rfl (by first|exact pEv rfl|exact vLd rfl (by repeat constructor) rfl (by rfl)|exact vL0 rfl (by assumption) rfl (by rfl)|exact v_index rfl rfl rfl rfl (by omega) (by omega) (by with_reducible first|exact idx4 _ _ _|fail)|fail) ?_|refine lNi ?_|refine cRg ?_|refine cSq ?_|refine xTh ?_|refine r_alloc rfl rfl rfl (by first|exact aggL|fail) (fun _ => ?_)|refine rSt rfl rfl rfl rfl rfl rfl rfl (by repeat constructor) (by rfl) ?_|refine c_true rfl ?_|refine c_dec_t rfl (by first|omega|fail) ?_|refine cBl ?_|refine cSk ?_|fail)
   refine r_call rfl rfl rfl (fun W hW => Code_calls sg W) ?_
   unfold v2
   repeat (first|refine lVa rfl rfl (by first|exact pEv rfl|fail) ?_|refine lNi ?_|refine cRg ?_|refine xTh ?_|refine r_buildSlice rfl rfl rfl rfl rfl rfl (by rfl) (fun _ => ?_)|fail)
   refine r_append (m := 1) (ys := [.int .i64 ((codA sg).1)]) rfl rfl rfl rfl rfl rfl (news_own (by repeat constructor)) (by repeat (first|exact Rem.head|apply Rem.tail)) q3 rfl rfl (by decide) (by omega) (by unfold maxLen; omega) (fun b7 c7 r7 hg7 => ?_)
   rw [<- flatI_snoc] at hg7 ⊢
   repeat (first|refine lVa rfl rfl (by first|exact v_add rfl rfl (by omega) (by omega)|exact pEv rfl|fail) ?_|refine lNi ?_|refine cRg ?_|refine xTh ?_|refine x_block ?_|fail)
   exact x_back (k + 1, .more (n + 1) b7 c7 r7 (l ++ [(codA sg).1])) ⟨hlt, ⟨by omega, by rw [List.length_append, q2]; rfl, hg7⟩, hM'⟩ (by simp only; omega) (by repeat (first|exact .nil|refine .cons rfl (by first|rfl|(congr 1; done)|exact congrArg _ (by omega)|(simp; done)) ?_)) (by repeat (first|exact .nil|refine .keep (by first|rfl|assumption) ?_|refine .drop ?_|exact MSub.refl _))

end R41
end Go.Proofs

namespace Go.Kin.Cl
theorem best_left {x : Int} {a : List Int} : best (x :: a) [] = .left :: best a [] := by rw [best_nil_right, best_nil_right]; rfl
theorem best_right {y : Int} {b : List Int} : best [] (y :: b) = .right :: best [] b := by rw [best_nil_left, best_nil_left]; rfl
theorem ac_left {x : Int} {a : List Int} : ac (x :: a) [] = 2 + ac a [] := by rw [ac_nil_right, ac_nil_right, List.length_cons]; omega
/-- the pairs that are left from two places on -/
def prf (a b : List Int) (i k : Nat) : List (Int × Int) := prs (best (a.drop i) (b.drop k)) i k
def lf (a b : List Int) (i k : Nat) : Int := ac (a.drop i) (b.drop k)
variable {a b : List Int} {i k : Nat} {x y : Int}
theorem drop_get {l : List Int} {i : Nat} {x : Int} (h : l[i]? = some x) : l.drop i = x :: l.drop (i + 1) := by
 obtain ⟨h1, h2⟩ := List.getElem?_eq_some_iff.1 h
 rw [List.drop_eq_getElem_cons h1, h2]
theorem prf_both (hx : a[i]? = some x) (hy : b[k]? = some y) (h : lf a b i k = bes x y + lf a b (i + 1) (k + 1)) : prf a b i k = ((i : Int) + 1, (k : Int) + 1) :: prf a b (i + 1) (k + 1) := by
 unfold lf at h
 unfold prf
 rw [drop_get hx, drop_get hy] at h ⊢
 rw [best_cons, if_pos h]; rfl
theorem prf_left (hx : a[i]? = some x) (hy : b[k]? = some y) (h : lf a b i k ≠ bes x y + lf a b (i + 1) (k + 1)) (h2 : lf a b i k = 2 + lf a b (i + 1) k) : prf a b i k = ((i : Int) + 1, 0) :: prf a b (i + 1) k := by
 unfold lf at h h2
 unfold prf
 rw [drop_get hx, drop_get hy] at h h2 ⊢
 rw [best_cons, if_neg h, if_pos h2]; rfl
theorem prf_right (hx : a[i]? = some x) (hy : b[k]? = some y) (h : lf a b i k ≠ bes x y + lf a b (i + 1) (k + 1)) (h2 : lf a b i k ≠ 2 + lf a b (i + 1) k) : prf a b i k = (0, (k : Int) + 1) :: prf a b i (k + 1) := by
 unfold lf at h h2
 unfold prf
 rw [drop_get hx, drop_get hy] at h h2 ⊢
 rw [best_cons, if_neg h, if_neg h2]; rfl
theorem prf_lefts (hx : a[i]? = some x) (hk : k = b.length) : prf a b i k = ((i : Int) + 1, 0) :: prf a b (i + 1) k /\ lf a b i k = 2 + lf a b (i + 1) k := by
 unfold prf lf
 rw [drop_get hx, hk, List.drop_length, best_left, ac_left]; exact ⟨rfl, rfl⟩
theorem prf_rights (hi : i = a.length) (hy : b[k]? = some y) : prf a b i k = (0, (k : Int) + 1) :: prf a b i (k + 1) := by
 unfold prf
 rw [drop_get hy, hi, List.drop_length, best_right]; rfl
theorem prf_end (hi : i = a.length) (hk : k = b.length) : prf a b i k = [] := by
 unfold prf
 rw [hi, hk, List.drop_length, List.drop_length, best_nil_left]; rfl
theorem lf_bd (a b : List Int) (i k : Nat) (ha : a.length <= 64) (hb : b.length <= 64) : 0 <= lf a b i k /\ lf a b i k <= 256 := by
 have := ac_bd (a.drop i) (b.drop k)
 unfold lf
 rw [List.length_drop, List.length_drop] at this
 omega
end Go.Kin.Cl

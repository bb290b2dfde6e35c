/- Games on networks: the specification's small functions. -/
import Derived.Test.YtcodoembnjemkaaGreatSgTab
import Derived.Test.YtcodoembnjemkaaGreatSgChk
import Derived.Test.YtcodoembnjemkaaGreatEng40
set_option maxRecDepth 100000
set_option maxHeartbeats 400000000
set_option linter.unusedSectionVars false
set_option linter.unusedVariables false
set_option linter.unusedSimpArgs false
namespace Go.Proofs
open Go.RowKit Go.Kin Go.Kin.St Go.Kin.Ct Go.Kin.Sg
namespace R24
theorem into65_calls (u : R23.Un) (p : Int) (w : World) (hA : u.In w) (hl : u.C.length <= 9223372036854775807) :
  Calls Tryz.prog 90 ⟨[.agg ⟨u.v⟩, .int .i64 p]⟩ w fun e w' => e = .returned (.int .i64 (R23.intoI u.C p)) /\ Below w.heap.size w w' := by
 obtain ⟨n, A, cap, L, B, cab, C⟩ := u
 have hB := hA.c
 simp only at hB hl ⊢
 refine fEn Tryz.func90 rfl Tryz.ntmps90 rfl rfl (sWn w) ?_
 repeat (first|refine lVa rfl rfl (by first|exact pEv rfl|fail) ?_|refine lNi ?_|refine cRg ?_|refine cSq ?_|refine xTh ?_|refine r_box rfl rfl rfl rfl (fun _ => ?_)|refine cBl ?_|fail)
 rename_i b
 refine c_loop (ι := Nat) (fun k => k <= C.length /\ ∀ x ∈ C.take k, x.to ≠ p) (fun k => [(1, .int .i64 p), (2, .pointer (some ⟨b, 0, none⟩)), (5, .int .i64 k)]) (fun _ => [(b, .cells ⟨[.int .i64 n, .slice A L.length cap, .slice B C.length cab]⟩ 24 (0, 0))]) (fun k => C.length - k) 0 ⟨by omega, by simp⟩ (by repeat (first|exact .nil|refine .cons rfl (by first|rfl|(congr 1; done)|exact congrArg _ (by omega)|(simp; done)) ?_)) (by repeat (first|exact .nil|refine .keep (by first|rfl|assumption) ?_|refine .drop ?_|exact MSub.refl _)) ?_
 rintro k ⟨hk, hF⟩
 by_cases hlt : k < C.length
 ·obtain ⟨x, hx⟩ : ∃ x, C[k]? = some x := ⟨_, List.getElem?_eq_getElem hlt⟩
  obtain ⟨b', o, rfl, hc⟩ := hB k (R22.lkE x) (by simp [hx])
  have he := ext_of hc
  by_cases hp : x.to = p
  ·repeat (first|refine lVa rfl rfl (by first|exact pEv rfl|exact vLd rfl (by repeat constructor) rfl (by rfl)|exact vLe rfl (by assumption) rfl (by rfl)|exact v_index rfl rfl rfl rfl (by omega) (by omega) (by with_reducible first|exact idx4 _ _ _|fail)|fail) ?_|refine lNi ?_|refine cRg ?_|refine cSq ?_|refine xTh ?_|refine c_dec_t rfl (by first|omega|fail) ?_|refine cBl ?_|refine cSk ?_|refine c_ret ?_|refine xTr ?_|refine xBr ?_|fail)
   exact x_ret rfl rfl (by repeat constructor) rfl (fun W hW => ⟨by rw [R23.intoI_some (R23.into_at hF hx hp)], hW.below⟩)
  ·repeat (first|refine lVa rfl rfl (by first|exact v_add rfl rfl (by omega) (by omega)|exact pEv rfl|exact vLd rfl (by repeat constructor) rfl (by rfl)|exact vLe rfl (by assumption) rfl (by rfl)|exact v_index rfl rfl rfl rfl (by omega) (by omega) (by with_reducible first|exact idx4 _ _ _|fail)|fail) ?_|refine lNi ?_|refine cRg ?_|refine cSq ?_|refine xTh ?_|refine c_dec_t rfl (by first|omega|fail) ?_|refine c_dec_f rfl (by first|omega|fail) ?_|refine cBl ?_|refine cSk ?_|refine x_block ?_|fail)
   refine x_back (k + 1) ⟨hlt, fun y hy => ?_⟩ (by omega) (by repeat (first|exact .nil|refine .cons rfl (by first|rfl|(congr 1; done)|exact congrArg _ (by omega)|(simp; done)) ?_)) (by repeat (first|exact .nil|refine .keep (by first|rfl|assumption) ?_|refine .drop ?_|exact MSub.refl _))
   rw [List.take_add_one, hx] at hy
   rcases List.mem_append.1 hy with h | h
   ·exact hF y h
   ·simp only [Option.toList_some, List.mem_singleton] at h
    rw [h]; exact hp
 ·have hkl : k = C.length := by omega
  subst hkl
  rw [List.take_length] at hF
  repeat (first|refine lVa rfl rfl (by first|exact pEv rfl|exact vLd rfl (by repeat constructor) rfl (by rfl)|fail) ?_|refine lNi ?_|refine cRg ?_|refine cSq ?_|refine xTh ?_|refine c_dec_f rfl (by first|omega|fail) ?_|refine c_ret ?_|refine c_exit ?_|refine xTe ?_|refine xBs ?_|fail)
  exact x_ret rfl rfl (by repeat constructor) rfl (fun W hW => ⟨by rw [R23.intoI_none (R23.into_no hF)], hW.below⟩)
theorem has69_calls (A : Option Addr) (ca : Nat) (l : List Int) (v : Int) (w : World) (hA : At w A 1 (l.map inE)) (hl : l.length <= 9223372036854775806) :
  Calls Tryz.prog 89 ⟨[.slice A l.length ca, .int .i64 v]⟩ w fun e w' => e = .returned (.bool (decide (v ∈ l))) /\ Below w.heap.size w w' := by
 refine fEn Tryz.func89 rfl Tryz.ntmps89 rfl rfl (sWn w) ?_
 repeat (first|refine lVa rfl rfl (by first|exact pEv rfl|fail) ?_|refine lNi ?_|refine cRg ?_|refine cSq ?_|refine xTh ?_|refine cBl ?_|fail)
 refine c_loop (ι := Nat) (fun k => k <= l.length /\ ∀ x ∈ l.take k, x ≠ v) (fun k => [(0, .slice A l.length ca), (1, .int .i64 v), (5, .int .i64 k)]) (fun _ => []) (fun k => l.length - k) 0 ⟨Nat.zero_le _, fun u hu => by simp at hu⟩ (by repeat (first|exact .nil|refine .cons rfl (by first|rfl|(congr 1; done)|exact congrArg _ (by omega)|(simp; done)) ?_)) (by repeat (first|exact .nil|refine .keep (by first|rfl|assumption) ?_|refine .drop ?_|exact MSub.refl _)) ?_
 rintro k ⟨hk, hF⟩
 by_cases hlt : k < l.length
 ·obtain ⟨x, hx⟩ : ∃ x, l[k]? = some x := ⟨_, List.getElem?_eq_getElem hlt⟩
  obtain ⟨b', o, rfl, hc⟩ := hA k (inE x) (by simp [hx])
  have he := ext_of hc
  rw [Nat.mul_one] at he
  by_cases hp : x = v
  ·have hv : v ∈ l := hp ▸ List.mem_of_getElem? hx
   repeat (first|refine lVa rfl rfl (by first|exact pEv rfl|exact vL0 rfl (by assumption) rfl (by rfl)|exact v_index rfl rfl rfl rfl (by omega) (by omega) (by with_reducible first|exact idx2 _ _|fail)|fail) ?_|refine lNi ?_|refine cRg ?_|refine cSq ?_|refine xTh ?_|refine c_dec_t rfl (by first|omega|fail) ?_|refine cBl ?_|refine cSk ?_|refine c_ret ?_|refine xTr ?_|refine xBr ?_|fail)
   exact x_ret rfl rfl (by repeat constructor) rfl (fun W hW => ⟨by rw [decide_eq_true hv], hW.below⟩)
  ·repeat (first|refine lVa rfl rfl (by first|exact v_add rfl rfl (by omega) (by omega)|exact pEv rfl|exact vL0 rfl (by assumption) rfl (by rfl)|exact v_index rfl rfl rfl rfl (by omega) (by omega) (by with_reducible first|exact idx2 _ _|fail)|fail) ?_|refine lNi ?_|refine cRg ?_|refine cSq ?_|refine xTh ?_|refine c_dec_t rfl (by first|omega|fail) ?_|refine c_dec_f rfl (by first|omega|fail) ?_|refine cBl ?_|refine cSk ?_|refine x_block ?_|fail)
   refine x_back (k + 1) ⟨hlt, fun y hy => ?_⟩ (by omega) (by repeat (first|exact .nil|refine .cons rfl (by first|rfl|(congr 1; done)|exact congrArg _ (by omega)|(simp; done)) ?_)) (by repeat (first|exact .nil|refine .keep (by first|rfl|assumption) ?_|refine .drop ?_|exact MSub.refl _))
   rw [List.take_add_one, hx] at hy
   rcases List.mem_append.1 hy with h | h
   ·exact hF y h
   ·simp only [Option.toList_some, List.mem_singleton] at h
    rw [h]; exact hp
 ·have hkl : k = l.length := by omega
  subst hkl
  rw [List.take_length] at hF
  have hv : ¬ v ∈ l := fun h => hF v h rfl
  repeat (first|refine lVa rfl rfl (by first|exact pEv rfl|fail) ?_|refine lNi ?_|refine cRg ?_|refine cSq ?_|refine xTh ?_|refine c_dec_f rfl (by first|omega|fail) ?_|refine c_ret ?_|refine c_exit ?_|refine xTe ?_|refine xBs ?_|fail)
  exact x_ret rfl rfl (by repeat constructor) rfl (fun W hW => ⟨by rw [decide_eq_false hv], hW.below⟩)
theorem cmpL_none : ∀ {a b : List Int}, a.length = b.length -> (∀ i, i < a.length -> a[i]? = b[i]?) -> cmpL a b = 0 := fun {a b} hl h => by
 have : a = b := List.ext_getElem? fun i => by
  by_cases hi : i < a.length
  ·exact h i hi
  ·rw [List.getElem?_eq_none (by omega), List.getElem?_eq_none (by omega)]
 rw [this]; exact cmpL_same b
theorem cmp63_calls (A B : Option Addr) (ca cb : Nat) (l m : List Int) (w : World) (hA : At w A 1 (l.map inE)) (hB : At w B 1 (m.map inE)) (hl : l.length <= 9223372036854775806) (hlm : l.length = m.length) :
  Calls Tryz.prog 58 ⟨[.slice A l.length ca, .slice B m.length cb]⟩ w fun e w' => e = .returned (.int .i64 (cmpL l m)) /\ Below w.heap.size w w' := by
 refine fEn Tryz.func58 rfl Tryz.ntmps58 rfl rfl (sWn w) ?_
 repeat (first|refine lVa rfl rfl (by first|exact pEv rfl|fail) ?_|refine lNi ?_|refine cRg ?_|refine cSq ?_|refine xTh ?_|refine cBl ?_|fail)
 refine c_loop (ι := Nat) (fun k => k <= l.length /\ ∀ i, i < k -> l[i]? = m[i]?) (fun k => [(0, .slice A l.length ca), (1, .slice B m.length cb), (5, .int .i64 k)]) (fun _ => []) (fun k => l.length - k) 0 ⟨Nat.zero_le _, fun i hi => absurd hi (Nat.not_lt_zero _)⟩ (by repeat (first|exact .nil|refine .cons rfl (by first|rfl|(congr 1; done)|exact congrArg _ (by omega)|(simp; done)) ?_)) (by repeat (first|exact .nil|refine .keep (by first|rfl|assumption) ?_|refine .drop ?_|exact MSub.refl _)) ?_
 rintro k ⟨hk, hE⟩
 by_cases hlt : k < l.length
 ·obtain ⟨x, hx⟩ : ∃ x, l[k]? = some x := ⟨_, List.getElem?_eq_getElem hlt⟩
  obtain ⟨y, hy⟩ : ∃ y, m[k]? = some y := ⟨_, List.getElem?_eq_getElem (by omega)⟩
  obtain ⟨b1, o1, rfl, h1⟩ := hA k (inE x) (by simp [hx])
  obtain ⟨b2, o2, rfl, h2⟩ := hB k (inE y) (by simp [hy])
  have e1 := ext_of h1
  have e2 := ext_of h2
  rw [Nat.mul_one] at e1 e2
  by_cases c1 : x < y
  ·have hc : cmpL l m = -1 := by rw [cmpL_at hE hx hy (by omega)]; unfold cmpI; rw [if_pos c1]
   repeat (first|refine lVa rfl rfl (by first|exact pEv rfl|fail) ?_|refine lNi ?_|refine cRg ?_|refine cSq ?_|refine xTh ?_|refine c_dec_t rfl (by first|omega|fail) ?_|refine cBl ?_|refine cSk ?_|refine c_ret ?_|refine xTr ?_|refine xBr ?_|refine c_reads rfl (by decide +kernel) ?_|refine q_val rfl rfl (by first|exact pEv rfl|exact vL0 rfl (by assumption) rfl (by rfl)|exact v_index rfl rfl rfl rfl (by omega) (by omega) (by with_reducible first|exact idx2 _ _|fail)|fail) ?_|refine q_nil ?_|fail)
   exact x_ret rfl rfl (by repeat constructor) rfl (fun W hW => ⟨by rw [hc], hW.below⟩)
  ·by_cases c2 : y < x
   ·have hc : cmpL l m = 1 := by rw [cmpL_at hE hx hy (by omega)]; unfold cmpI; rw [if_neg c1, if_pos c2]
    repeat (first|refine lVa rfl rfl (by first|exact pEv rfl|fail) ?_|refine lNi ?_|refine cRg ?_|refine cSq ?_|refine xTh ?_|refine c_dec_t rfl (by first|omega|fail) ?_|refine c_dec_f rfl (by first|omega|fail) ?_|refine cBl ?_|refine cSk ?_|refine c_ret ?_|refine xTr ?_|refine xBr ?_|refine c_reads rfl (by decide +kernel) ?_|refine q_val rfl rfl (by first|exact pEv rfl|exact vL0 rfl (by assumption) rfl (by rfl)|exact v_index rfl rfl rfl rfl (by omega) (by omega) (by with_reducible first|exact idx2 _ _|fail)|fail) ?_|refine q_nil ?_|fail)
    exact x_ret rfl rfl (by repeat constructor) rfl (fun W hW => ⟨by rw [hc], hW.below⟩)
   ·have hxy : x = y := by omega
    repeat (first|refine lVa rfl rfl (by first|exact v_add rfl rfl (by omega) (by omega)|exact pEv rfl|fail) ?_|refine lNi ?_|refine cRg ?_|refine cSq ?_|refine xTh ?_|refine c_dec_t rfl (by first|omega|fail) ?_|refine c_dec_f rfl (by first|omega|fail) ?_|refine cBl ?_|refine cSk ?_|refine x_block ?_|refine c_reads rfl (by decide +kernel) ?_|refine q_val rfl rfl (by first|exact pEv rfl|exact vL0 rfl (by assumption) rfl (by rfl)|exact v_index rfl rfl rfl rfl (by omega) (by omega) (by with_reducible first|exact idx2 _ _|fail)|fail) ?_|refine q_nil ?_|fail)
    refine x_back (k + 1) ⟨hlt, fun i hi => ?_⟩ (by omega) (by repeat (first|exact .nil|refine .cons rfl (by first|rfl|(congr 1; done)|exact congrArg _ (by omega)|(simp; done)) ?_)) (by repeat (first|exact .nil|refine .keep (by first|rfl|assumption) ?_|refine .drop ?_|exact MSub.refl _))
    by_cases hik : i < k
    ·exact hE i hik
    ·have e : i = k := by omega
     subst e; rw [hx, hy, hxy]
 ·have hkl : k = l.length := by omega
  subst hkl
  have hc : cmpL l m = 0 := cmpL_none hlm hE
  repeat (first|refine lVa rfl rfl (by first|exact pEv rfl|fail) ?_|refine lNi ?_|refine cRg ?_|refine cSq ?_|refine xTh ?_|refine c_dec_f rfl (by first|omega|fail) ?_|refine c_ret ?_|refine c_exit ?_|refine xTe ?_|refine xBs ?_|fail)
  exact x_ret rfl rfl (by repeat constructor) rfl (fun W hW => ⟨by rw [hc], hW.below⟩)
/-- what is asked of what is done -/
def incB (n : Nat) (d : List Int) : Prop := ∀ (i : Nat) (x : Int), d[i]? = some x -> 0 <= x /\ x < n /\ ∀ (j : Nat) (y : Int), i = j + 1 -> d[j]? = some y -> y < x
theorem incB_iff {n : Nat} {d : List Int} : incB n d ↔ okD n d := by
 constructor
 ·intro h i x hx
  obtain ⟨h1, h2, h3⟩ := h i x hx
  refine ⟨?_, h2⟩
  cases i with
  | zero => show (-1 : Int) < x; omega
  | succ j =>
   have hlt := (List.getElem?_eq_some_iff.1 hx).1
   have hy : d[j]? = some d[j] := List.getElem?_eq_getElem (by omega)
   have := h3 j _ rfl hy
   show d.getD j 0 < x
   rw [List.getD_eq_getElem?_getD, hy]; exact this
 ·intro h i x hx
  obtain ⟨g1, g2, g3⟩ := pv_inc h hx
  exact ⟨g1, g2, fun j y hj hy => g3 j y (by omega) hy⟩
end R24
end Go.Proofs

namespace Go
open Go.RowKit Go.Sort
namespace Kin
section
variable {P : Program} {N : Nat} {c : Cx} {Q : Exit -> Act -> World -> Prop} {env : List (Nat × Value)} {mem : List (Nat × Obj)}
theorem x_weaken {e : Exit} {E : List (Nat × Value)} {M : List (Nat × Obj)} (hE : EnvSub env E) (hM : MSub mem M) (k : RunX N c Q e E M) : RunX N c Q e env mem := .mk fun a W ha hm => k.run a W (hE.sat ha) (hm.mono hM.sub)
/-- what follows a piece of code where it ends normally is shown once, from what little it needs -/
theorem c_share {x : Code} (E : List (Nat × Value)) (M : List (Nat × Obj)) (k : RunX N c Q .normal E M) (h : (∀ {env' : List (Nat × Value)} {mem' : List (Nat × Obj)}, EnvSub env' E -> MSub mem' M -> RunX N c Q .normal env' mem') -> RunC P N c x Q env mem) : RunC P N c x Q env mem :=
 h fun hE hM => x_weaken hE hM k
end
end Kin
end Go

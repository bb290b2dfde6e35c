/- Games on networks: a closure of Play's. -/
import Derived.Test.YtcodoembnjemkaaGreatSgWn
import Derived.Test.YtcodoembnjemkaaGreatSgE
import Derived.Test.YtcodoembnjemkaaGreatCtRow
import Derived.Test.YtcodoembnjemkaaGreatStAcc
set_option maxRecDepth 100000
set_option maxHeartbeats 400000000
set_option linter.unusedSectionVars false
set_option linter.unusedVariables false
set_option linter.unusedSimpArgs false
namespace Go.Proofs
open Go.RowKit Go.Kin Go.Kin.St Go.Kin.Ct Go.Kin.Sg
namespace R24
theorem wait31_calls (b : GB) (a bG bP bU bW k : Nat) (f : Nat -> Int) (A : Option Addr) (cw : Nat) (wt : List Int) (x i : Nat) (y : Lk) (v : Int) (w : World) (hx6 : x < 6) (hk : k <= 1000) (hf : ∀ q, 0 <= f q /\ f q <= 1000) (hiv : iv b.C x = i + 1) (hy : b.C[i]? = some y) (hfr : 0 <= y.fr /\ y.fr < 6) (hc : b.C.length <= 1000)
  (hv : wt[i]? = some v) (hl : wt.length <= 1000) (hg : GIn b a w) (cG : w.cell? ⟨bG, 0, none⟩ = some (.pointer (some ⟨a, 0, none⟩))) (cP : ∀ j u, (plC k f)[j]? = some u -> w.cell? ⟨bP, j, none⟩ = some u) (cU : w.cell? ⟨bU, 2, none⟩ = some (.slice b.B b.C.length b.cb)) (cW : w.cell? ⟨bW, 0, none⟩ = some (.slice A wt.length cw)) (hA : At w A 1 (wt.map inE)) :
  Calls Tryz.prog 42 ⟨[] ++ [.int .i64 x] ++ [.pointer (some ⟨bG, 0, none⟩), .pointer (some ⟨bP, 0, none⟩), .pointer (some ⟨bU, 0, none⟩), .pointer (some ⟨bW, 0, none⟩)]⟩ w fun e w' => e = .returned (.bool (decide ((k : Int) + 1 - f y.fr.toNat ≠ v))) /\ Below w.heap.size w w' := by
 have eG := ext1 cG
 have eW := ext1 cW
 have eU : Ext w (base w) bU 2 [.slice b.B b.C.length b.cb] := ext_of fun j u hj => by
  cases j with
  | zero => cases hj; exact cU
  | succ j => cases hj
 have eP : Ext w (base w) bP 0 (plC k f) := ext_of fun j u hj => by rw [Nat.zero_add]; exact cP j u hj
 have eI : Ext w (base w) a (0 + 4 + x) [.int .i64 (i + 1)] := by
  have := hg.ext.at (cells_iv (b := b) hx6)
  rw [hiv, show 0 + (4 + x) = 0 + 4 + x by omega] at this
  exact this
 obtain ⟨bB, oB, hBe, hcB⟩ := hg.c i (lkE y) (by rw [List.getElem?_map, hy]; rfl)
 have eB := ext_of hcB
 have hil := (List.getElem?_eq_some_iff.1 hy).1
 have hiw := (List.getElem?_eq_some_iff.1 hv).1
 have ei : ((i : Int) + 1 - 1).toNat = i := by omega
 rw [<- ei] at eB
 have eF : Ext w (base w) bP (0 + 1 + y.fr.toNat) [.int .i64 (f y.fr.toNat)] := by
  have := eP.at (plC_get (k := k) (f := f) (q := y.fr.toNat) (by omega))
  rw [show 0 + (1 + y.fr.toNat) = 0 + 1 + y.fr.toNat by omega] at this
  exact this
 have hfy := hf y.fr.toNat
 obtain ⟨bA, oA, hAe, hcA⟩ := hA i (inE v) (by rw [List.getElem?_map, hv]; rfl)
 have eA := ext_of hcA
 rw [Nat.mul_one, <- ei] at eA
 rw [hBe] at eU
 rw [hAe] at eW
 refine fEn Tryz.func42 rfl Tryz.ntmps42 rfl rfl (sWn w) ?_
 repeat (first|refine lVa rfl rfl (by first|exact v_sub rfl rfl (by omega) (by omega)|exact pEv rfl|exact vL0 rfl (by assumption) rfl (by rfl)|exact v_indexA rfl rfl rfl rfl (by omega) (by omega) (by with_reducible first|exact idx2 _ _|fail)|fail) ?_|refine lNi ?_|refine cRg ?_|refine cSq ?_|refine xTh ?_|refine c_ret ?_|refine c_reads rfl (by decide +kernel) ?_|refine q_val rfl rfl (by first|exact v_add rfl rfl (by omega) (by omega)|exact v_sub rfl rfl (by omega) (by omega)|exact pEv rfl|exact vL0 rfl (by assumption) rfl (by rfl)|exact v_index rfl rfl rfl rfl (by omega) (by omega) (by with_reducible first|exact idx6 _ _|exact idx8 _ _ _|fail)|exact v_indexA rfl rfl rfl rfl (by omega) (by omega) (by with_reducible first|exact idx6 _ _|fail)|fail) ?_|refine q_nil ?_|fail)
 exact x_ret rfl rfl (by repeat constructor) rfl (fun W hW => ⟨rfl, hW.below⟩)
end R24
end Go.Proofs

set_option maxRecDepth 100000
set_option maxHeartbeats 400000000
namespace Go.Proofs
open Go.RowKit Go.Kin Go.Kin.St Go.Kin.Ct Go.Kin.Sg
namespace R24
theorem same15_calls (A B : Option Addr) (ca cb : Nat) (l m : List Int) (w : World) (hA : Kin.At w A 1 (l.map inE)) (hB : Kin.At w B 1 (m.map inE)) (hl : l.length <= 9223372036854775806) :
  Calls Tryz.prog 18 ⟨[.slice A l.length ca, .slice B m.length cb]⟩ w fun e w' => e = .returned (.bool (decide (l = m))) /\ Below w.heap.size w w' := by
 refine fEn Tryz.func18 rfl Tryz.ntmps18 rfl rfl (sWn w) ?_
 by_cases hlm : l.length = m.length
 rotate_left
 ·rw [decide_eq_false fun h => hlm (by rw [h])]
  have hne : (l.length : Int) ≠ m.length := by omega
  repeat (first|refine lVa rfl rfl (by first|exact pEv rfl|fail) ?_|refine lNi ?_|refine cRg ?_|refine cSq ?_|refine xTh ?_|refine c_dec_t rfl (by first|omega|fail) ?_|refine c_ret ?_|refine xTr ?_|fail)
  exact x_ret rfl rfl (by repeat constructor) rfl (fun W hW => ⟨rfl, hW.below⟩)
 repeat ((fail_if_success refine c_probe (id := 4) ?_); (fail_if_success refine c_probe1 (id := 4) ?_); first|refine lVa rfl rfl (by first|exact pEv rfl|fail) ?_|refine lNi ?_|refine cRg ?_|refine cSq ?_|refine xTh ?_|refine c_dec_f rfl (by first|omega|exact fun h => h rfl|fail) ?_|refine cBl ?_|refine cSk ?_|fail)
 refine c_loop (ι := Nat) (fun k => k <= l.length /\ ∀ i, i < k -> l[i]? = m[i]?) (fun k => [(0, .slice A l.length ca), (1, .slice B m.length cb), (5, .int .i64 k)]) (fun _ => []) (fun k => l.length - k) 0 ⟨Nat.zero_le _, fun i hi => absurd hi (Nat.not_lt_zero _)⟩ (by repeat (first|exact .nil|refine .cons rfl (by first|rfl|(congr 1; done)|exact congrArg _ (by omega)|(simp; done)) ?_)) (by repeat (first|exact .nil|refine .keep (by first|rfl|assumption) ?_|refine .drop ?_|exact MSub.refl _)) ?_
 rintro k ⟨hk, hE⟩
 by_cases hlt : k < l.length
 ·obtain ⟨x, hx⟩ : ∃ x, l[k]? = some x := ⟨_, List.getElem?_eq_getElem hlt⟩
  obtain ⟨y, hy⟩ : ∃ y, m[k]? = some y := ⟨_, List.getElem?_eq_getElem (by omega)⟩
  obtain ⟨b1, o1, rfl, h1⟩ := hA k (inE x) (by simp [hx])
  obtain ⟨b2, o2, rfl, h2⟩ := hB k (inE y) (by simp [hy])
  have e1 := ext_of h1
  have e2 := ext_of h2
  rw [Nat.mul_one] at e1 e2
  by_cases hxy : x = y
  ·repeat (first|refine lVa rfl rfl (by first|exact v_add rfl rfl (by omega) (by omega)|exact pEv rfl|fail) ?_|refine lNi ?_|refine cRg ?_|refine cSq ?_|refine xTh ?_|refine c_dec_t rfl (by first|omega|fail) ?_|refine c_dec_f rfl (by first|omega|exact fun h => h rfl|fail) ?_|refine cBl ?_|refine cSk ?_|refine x_block ?_|refine c_reads rfl (by decide +kernel) ?_|refine q_val rfl rfl (by first|exact pEv rfl|exact vL0 rfl (by assumption) rfl (by rfl)|exact v_index rfl rfl rfl rfl (by omega) (by omega) (by with_reducible first|exact idx2 _ _|fail)|fail) ?_|refine q_nil ?_|fail)
   refine x_back (k + 1) ⟨hlt, fun i hi => ?_⟩ (by omega) (by repeat (first|exact .nil|refine .cons rfl (by first|rfl|(congr 1; done)|exact congrArg _ (by omega)|(simp; done)) ?_)) (by repeat (first|exact .nil|refine .keep (by first|rfl|assumption) ?_|refine .drop ?_|exact MSub.refl _))
   by_cases hik : i < k
   ·exact hE i hik
   ·have e : i = k := by omega
    subst e; rw [hx, hy, hxy]
  ·rw [decide_eq_false fun h => hxy (by rw [h, hy] at hx; exact (Option.some.inj hx).symm)]
   repeat (first|refine lVa rfl rfl (by first|exact pEv rfl|fail) ?_|refine lNi ?_|refine cRg ?_|refine cSq ?_|refine xTh ?_|refine c_dec_t rfl (by first|omega|fail) ?_|refine cBl ?_|refine cSk ?_|refine c_ret ?_|refine xTr ?_|refine xBr ?_|refine c_reads rfl (by decide +kernel) ?_|refine q_val rfl rfl (by first|exact pEv rfl|exact vL0 rfl (by assumption) rfl (by rfl)|exact v_index rfl rfl rfl rfl (by omega) (by omega) (by with_reducible first|exact idx2 _ _|fail)|fail) ?_|refine q_nil ?_|fail)
   exact x_ret rfl rfl (by repeat constructor) rfl (fun W hW => ⟨rfl, hW.below⟩)
 ·have hkl : k = l.length := by omega
  subst hkl
  have he : l = m := List.ext_getElem? fun i => by
   by_cases hi : i < l.length
   ·exact hE i hi
   ·rw [List.getElem?_eq_none (by omega), List.getElem?_eq_none (by omega)]
  rw [decide_eq_true he]
  repeat (first|refine lVa rfl rfl (by first|exact pEv rfl|fail) ?_|refine lNi ?_|refine cRg ?_|refine cSq ?_|refine xTh ?_|refine c_dec_f rfl (by first|omega|fail) ?_|refine c_ret ?_|refine c_exit ?_|refine xTe ?_|refine xBs ?_|fail)
  exact x_ret rfl rfl (by repeat constructor) rfl (fun W hW => ⟨rfl, hW.below⟩)
theorem lacks34_calls (v : Int) (bx : Nat) (T : Option Addr) (cap : Nat) (t : List Int) (w : World) (hB : w.cell? ⟨bx, 0, none⟩ = some (.slice T t.length cap)) (hT : Kin.At w T 1 (t.map inE)) (hl : t.length <= 9223372036854775807) :
  Calls Tryz.prog 44 ⟨[] ++ [.int .i64 v] ++ [.pointer (some ⟨bx, 0, none⟩)]⟩ w fun e w' => e = .returned (.bool (!t.contains v)) /\ Below w.heap.size w w' := by
 have hE : Ext w (base w) bx 0 [.slice T t.length cap] := ext_of fun j v hj => by
  cases j with
  | zero => cases hj; exact hB
  | succ j => cases hj
 refine fEn Tryz.func44 rfl Tryz.ntmps44 rfl rfl (sWn w) ?_
 repeat (first|refine lVa rfl rfl (by first|exact pEv rfl|exact vL0 rfl (by assumption) rfl (by rfl)|fail) ?_|refine lNi ?_|refine cRg ?_|refine cSq ?_|refine xTh ?_|fail)
 refine r_call rfl rfl rfl (fun W hW => contains_calls v T cap t W (hT.sat hW) hl) ?_
 repeat (first|refine lVa rfl rfl (by first|exact pEv rfl|fail) ?_|refine lNi ?_|refine xTh ?_|refine c_ret ?_|fail)
 exact x_ret rfl rfl (by repeat constructor) rfl (fun W hW => ⟨rfl, hW.below⟩)
end R24
end Go.Proofs

set_option maxRecDepth 100000
set_option maxHeartbeats 400000000
namespace Go.Proofs
open Go.RowKit Go.Kin Go.Kin.St Go.Kin.Ct Go.Kin.Sg
namespace R24
theorem flI_map {l : List Int} : flI l = l.map fun x => Value.int .i64 x := by
 unfold flI
 induction l with
 | nil => rfl
 | cons x l ih => rw [List.map_cons, List.flatten_cons, ih]; rfl
theorem delete_calls (g : Nat) [Ent Tryz.prog g] (fs cs : List Value) (p : Int -> Bool) (b cap : Nat) (l : List Int) (rest : List Value) (w : World) (hgr : Grow 1 l.length (flI l) cap rest) (hl : l.length <= 1000) (hb : w.heap[b]? = some (.cells ⟨flI l ++ rest⟩ 3 (0, 0)))
  (hp : ∀ x ∈ l, ∀ W, Same (allBut w [b]) w W -> Calls Tryz.prog g ⟨fs ++ [.int .i64 x] ++ cs⟩ W fun e w' => e = .returned (.bool (p x)) /\ Below W.heap.size W w') :
  Calls Tryz.prog 41 ⟨[.slice (some ⟨b, 0, none⟩) l.length cap, .func (.func g) ⟨fs⟩ ⟨cs⟩]⟩ w
   (FrQ [(b, .cells ⟨flI l ++ rest⟩ 3 (0, 0))] (fun _ : { r : List Value // Grow 1 (l.filter fun x => !p x).length (flI (l.filter fun x => !p x)) cap r } => .slice (some ⟨b, 0, none⟩) (l.filter fun x => !p x).length cap) (fun i => [(b, .cells ⟨flI (l.filter fun x => !p x) ++ i.1⟩ 3 (0, 0))]) w) := by
 have hsat : SatW w (allBut w ([(b, Obj.cells ⟨flI l ++ rest⟩ 3 (0, 0))].map (·.1))) noJ [(b, Obj.cells ⟨flI l ++ rest⟩ 3 (0, 0))] w := frQ_start (by simp) (by simpa using hb)
 have hcl := hgr.le
 have hcm := hgr.max
 have hat : ∀ {mem : List (Nat × Obj)} {W : World}, SatW w (allBut w [b]) noJ mem W -> (b, Obj.cells ⟨flI l ++ rest⟩ 3 (0, 0)) ∈ mem -> At W (some ⟨b, 0, none⟩) 1 (l.map inE) := fun {mem W} hW hm k vs hk => by
  refine ⟨b, 0, rfl, fun j v hj => ?_⟩
  rw [List.getElem?_map] at hk
  obtain ⟨y, hy, rfl⟩ := Option.map_eq_some_iff.1 hk
  cases j with
  | succ j => cases hj
  | zero =>
   cases hj
   rw [show 0 + k * 1 + 0 = k by omega, hW.cellAt hm]
   exact flI_get hy _
 refine fEn Tryz.func41 rfl Tryz.ntmps41 rfl rfl hsat ?_
 repeat (first|refine lVa rfl rfl (by first|exact pEv rfl|fail) ?_|refine lNi ?_|refine cRg ?_|refine cSq ?_|refine xTh ?_|fail)
 refine r_callI (ι := IdxOf p l) (v := fun r => .int .i64 r.r) rfl rfl rfl (fun W hW => indexF_calls g fs cs p (some ⟨b, 0, none⟩) cap l W (hat hW (by repeat constructor)) (by omega) fun x hx W' hW' => hp x hx W' (hW.same.trans (Same.of_below_all hW'))) (fun r => ?_)
 rcases r.ok with ⟨hr, hno⟩ | ⟨i, hr, hil, hF, y, hy, hpy⟩
 ·have hf : (l.filter fun x => !p x) = l := List.filter_eq_self.2 fun x hx => by rw [hno x hx]; rfl
  rw [hr, hf]
  repeat (first|refine lVa rfl rfl (by first|exact pEv rfl|fail) ?_|refine lNi ?_|refine cRg ?_|refine cSq ?_|refine xTh ?_|refine c_true rfl ?_|refine c_ret ?_|refine xTr ?_|fail)
  exact x_ret rfl rfl (by repeat constructor) rfl (fun W hW => ⟨⟨rest, hgr⟩, rfl, hW⟩)
 ·rw [hr]
  have hri : (i : Int) ≠ -1 := by omega
  obtain ⟨q, hq⟩ : ∃ q : Int -> Bool, q = fun x => !p x := ⟨_, rfl⟩
  have hf0 : (l.take (i + 1)).filter q = l.take i := by
   rw [List.take_add_one, hy, List.filter_append, List.filter_eq_self.2 fun x hx => by rw [hq]; simp [hF x hx]]
   simp [hq, hpy]
  rw [<- hq]
  refine l_part [] (mem' := [(b, .cells ⟨flI ((l.take (i + 1)).filter q ++ l.drop ((l.take (i + 1)).filter q).length) ++ rest⟩ 3 (0, 0))]) (List.Perm.of_eq (by rw [hf0, List.length_take, show min i l.length = i by omega, List.take_append_drop]; rfl)) ?_
  repeat (first|refine lVa rfl rfl (by first|exact v_add rfl rfl (by omega) (by omega)|exact pEv rfl|fail) ?_|refine lNi ?_|refine cRg ?_|refine cSq ?_|refine xTh ?_|refine c_false rfl ?_|refine cBl ?_|refine cSk ?_|fail)
  refine c_loop (ι := Nat) (fun j => i + 1 <= j /\ j <= l.length /\ ((l.take j).filter q).length + 1 <= j) (fun j => [(0, .slice (some ⟨b, 0, none⟩) l.length cap), (1, .func (.func g) ⟨fs⟩ ⟨cs⟩), (5, .int .i64 ((l.take j).filter q).length), (6, .int .i64 j)])
   (fun j => [(b, .cells ⟨flI ((l.take j).filter q ++ l.drop ((l.take j).filter q).length) ++ rest⟩ 3 (0, 0))]) (fun j => l.length - j) (i + 1) ⟨Nat.le_refl _, by omega, by rw [hf0, List.length_take]; omega⟩
   (by
    have hlen : ((l.take (i + 1)).filter q).length = i := by rw [hf0, List.length_take]; omega
    rw [hlen]
    exact (by repeat (first|exact .nil|refine .cons rfl (by first|rfl|(congr 1; done)|exact congrArg _ (by omega)|(simp; done)) ?_))) (MSub.refl _) ?_
  rintro j ⟨hj1, hj2, hj3⟩
  obtain ⟨out, hout⟩ : ∃ out, (l.take j).filter q = out := ⟨_, rfl⟩
  rw [hout] at hj3 ⊢
  by_cases hlt : j < l.length
  ·obtain ⟨x, hx⟩ : ∃ x, l[j]? = some x := ⟨_, List.getElem?_eq_getElem hlt⟩
   have hxm := List.mem_of_getElem? hx
   have hcx : (flI (out ++ l.drop out.length) ++ rest)[j]? = some (.int .i64 x) := flI_get (by rw [List.getElem?_append_right (by omega), List.getElem?_drop, show out.length + (j - out.length) = j by omega, hx]) rest
   repeat (first|refine lVa rfl rfl (by first|exact pEv rfl|exact v_index rfl rfl rfl rfl (by omega) (by omega) (by with_reducible first|exact idx1 _|fail)|exact v_load_at rfl (by repeat constructor) rfl rfl (by first|assumption|fail)|fail) ?_|refine lNi ?_|refine cRg ?_|refine cSq ?_|refine xTh ?_|refine c_dec_t rfl (by first|omega|fail) ?_|refine cBl ?_|refine cSk ?_|fail)
   refine r_callv rfl rfl rfl rfl rfl (fun W hW => hp x hxm W hW.same) ?_
   cases hpx : p x with
   | true =>
    have hn : (l.take (j + 1)).filter q = out := by
     rw [List.take_add_one, hx, List.filter_append, hout]; simp [hq, hpx]
    repeat (first|refine lVa rfl rfl (by first|exact v_add rfl rfl (by omega) (by omega)|exact pEv rfl|fail) ?_|refine lNi ?_|refine cRg ?_|refine xTh ?_|refine c_false rfl ?_|refine cSk ?_|refine x_block ?_|fail)
    exact x_back (j + 1) ⟨by omega, hlt, by rw [hn]; omega⟩ (by omega) (by rw [hn]; exact (by repeat (first|exact .nil|refine .cons rfl (by first|rfl|(congr 1; done)|exact congrArg _ (by omega)|(simp; done)) ?_))) (by rw [hn]; exact MSub.refl _)
   | false =>
    have hn : (l.take (j + 1)).filter q = out ++ [x] := by
     rw [List.take_add_one, hx, List.filter_append, hout]; simp [hq, hpx]
    have hst : (flI (out ++ l.drop out.length) ++ rest).set out.length (.int .i64 x) = flI ((out ++ [x]) ++ l.drop (out.length + 1)) ++ rest := by
     rw [flI_map, flI_map, List.set_append_left _ _ (by simp; omega), List.map_append, List.set_append_right _ _ (by simp), List.length_map, Nat.sub_self, List.drop_eq_getElem_cons (show out.length < l.length by omega), List.map_cons, List.set_cons_zero]
     simp
    repeat (first|refine r_store_at rfl rfl rfl rfl rfl rfl (by repeat constructor) (by rw [List.length_append, flI_map, List.length_map, List.length_append, List.length_drop]; omega) hst ?_|refine lVa rfl rfl (by first|exact v_add rfl rfl (by omega) (by omega)|exact pEv rfl|exact v_index rfl rfl rfl rfl (by omega) (by omega) (by with_reducible first|exact idx1 _|fail)|fail) ?_|refine lNi ?_|refine cRg ?_|refine cSq ?_|refine xTh ?_|refine c_true rfl ?_|refine x_block ?_|fail)
    exact x_back (j + 1) ⟨by omega, hlt, by rw [hn, List.length_append, List.length_cons, List.length_nil]; omega⟩ (by omega) (by rw [hn, List.length_append]; exact (by repeat (first|exact .nil|refine .cons rfl (by first|rfl|(congr 1; done)|exact congrArg _ (by omega)|(simp; done)) ?_))) (by rw [hn, List.length_append]; exact MSub.refl _)
  ·have hjl : j = l.length := by omega
   subst hjl
   rw [List.take_length] at hout
   rw [hout]
   have hkl : out.length < l.length := by omega
   have hl1 : (flI out).length = out.length := by rw [flI_map, List.length_map]
   have hl2 : (flI (l.drop out.length)).length = l.length - out.length := by rw [flI_map, List.length_map, List.length_drop]
   have hfl : flI (out ++ l.drop out.length) ++ rest = flI out ++ (flI (l.drop out.length) ++ rest) := by rw [flI_map, flI_map, flI_map, List.map_append, List.append_assoc]
   repeat (first|refine lVa rfl rfl (by first|exact pEv rfl|fail) ?_|refine lNi ?_|refine cRg ?_|refine cSq ?_|refine xTh ?_|refine c_dec_f rfl (by first|omega|fail) ?_|refine c_exit ?_|refine xTe ?_|refine xBs ?_|refine lVa rfl rfl (v_sliceL rfl rfl rfl rfl rfl (by omega) (by omega)) ?_|fail)
   refine r_clear rfl rfl rfl rfl rfl rfl (fun _ => Upd.head) (by rw [hfl, List.length_append, List.length_append, hl1, hl2]; omega) (fun zs hz => ?_)
   have hsp : splice (flI (out ++ l.drop out.length) ++ rest) (0 + out.length * 1) zs = flI out ++ (zs ++ rest) := by
    rw [hfl, Nat.zero_add, Nat.mul_one]
    have hd : (flI out ++ (flI (l.drop out.length) ++ rest)).drop (out.length + zs.length) = rest := by
     rw [hz, <- List.append_assoc, Nat.mul_one]
     exact List.drop_left' (by rw [List.length_append, hl1, hl2])
    have ht : (flI out ++ (flI (l.drop out.length) ++ rest)).take out.length = flI out := List.take_left' hl1
    unfold splice
    rw [hd, ht, List.append_assoc]
   rw [hsp]
   repeat (first|refine lVa rfl rfl (by first|exact pEv rfl|fail) ?_|refine lNi ?_|refine cRg ?_|refine cSq ?_|refine xTh ?_|refine c_ret ?_|refine lVa rfl rfl (v_sliceH rfl rfl rfl rfl rfl (by omega)) ?_|fail)
   have hgl := hgr.all
   have hll : (flI l).length = l.length := by rw [flI_map, List.length_map]
   rw [List.length_append, hll] at hgl
   exact x_ret rfl rfl (by repeat constructor) rfl (fun W hW => ⟨⟨zs ++ rest, ⟨by rw [hl1]; omega, by rw [List.length_append, List.length_append, hl1, hz]; omega, by omega, hcm⟩⟩, rfl, hW⟩)
end R24
end Go.Proofs

namespace Go.Kin.Sg
open Go.Kin.St Go.Kin.Ct
theorem wt_some {C : List Lk} {k : Int} {f : Nat -> Int} {q : Nat} {m : Int} {x : Lk} (h : wtF C k f q = some (m, x)) : lnk C q = some x /\ f q = 0 /\ f x.fr.toNat ≠ 0 /\ m = k + 1 - f x.fr.toNat := by
 unfold wtF at h
 cases hl : lnk C q with
 | none => rw [hl] at h; cases h
 | some y =>
  rw [hl] at h
  simp only at h
  by_cases hc : f q = 0 /\ f y.fr.toNat ≠ 0
  ·rw [if_pos hc] at h
   simp only [Option.some.injEq, Prod.mk.injEq] at h
   obtain ⟨h1, rfl⟩ := h
   exact ⟨rfl, hc.1, hc.2, h1.symm⟩
  ·rw [if_neg hc] at h; cases h
theorem wt_of {C : List Lk} {k : Int} {f : Nat -> Int} {q : Nat} {x : Lk} (h1 : lnk C q = some x) (h2 : f q = 0) (h3 : f x.fr.toNat ≠ 0) : wtF C k f q = some (k + 1 - f x.fr.toNat, x) := by
 unfold wtF; rw [h1]; exact if_pos ⟨h2, h3⟩
theorem mayB_iff {G : Gm} {k : Nat} {l : List Int} {q : Nat} : mayB G k l q = true ↔ ∃ x, lnk G.C q = some x /\ kn l q = 0 /\ kn l x.fr.toNat ≠ 0 /\ x.lo <= k + 1 - kn l x.fr.toNat /\ (k : Int) + 1 - kn l x.fr.toNat <= x.hi := by
 unfold mayB mayF
 constructor
 ·intro h
  cases hw : wtF G.C k (kn l) q with
  | none => rw [hw] at h; cases h
  | some p =>
   obtain ⟨m, x⟩ := p
   rw [hw] at h
   obtain ⟨h1, h2, h3, rfl⟩ := wt_some hw
   simp only [Bool.and_eq_true, decide_eq_true_eq] at h
   exact ⟨x, h1, h2, h3, h.1, h.2⟩
 ·rintro ⟨x, h1, h2, h3, h4, h5⟩
  rw [wt_of h1 h2 h3]
  simp only [Bool.and_eq_true, decide_eq_true_eq]
  exact ⟨h4, h5⟩
theorem dueB_iff {G : Gm} {k : Nat} {l : List Int} {q : Nat} : dueB G k l q = true ↔ ∃ x, lnk G.C q = some x /\ kn l q = 0 /\ kn l x.fr.toNat ≠ 0 /\ x.lo <= k + 1 - kn l x.fr.toNat /\ (k : Int) + 1 - kn l x.fr.toNat = x.hi := by
 unfold dueB dueF
 constructor
 ·intro h
  cases hw : wtF G.C k (kn l) q with
  | none => rw [hw] at h; cases h
  | some p =>
   obtain ⟨m, x⟩ := p
   rw [hw] at h
   obtain ⟨h1, h2, h3, rfl⟩ := wt_some hw
   simp only [Bool.and_eq_true, decide_eq_true_eq] at h
   exact ⟨x, h1, h2, h3, h.1, h.2⟩
 ·rintro ⟨x, h1, h2, h3, h4, h5⟩
  rw [wt_of h1 h2 h3]
  simp only [Bool.and_eq_true, decide_eq_true_eq]
  exact ⟨h4, h5⟩
theorem may_mem {G : Gm} {k : Nat} {l : List Int} {q : Nat} : q ∈ may G k l ↔ q < G.n /\ mayB G k l q = true := by unfold may; rw [List.mem_filter, List.mem_range]
theorem due_mem {G : Gm} {k : Nat} {l : List Int} {q : Nat} : q ∈ due G k l ↔ q < G.n /\ dueB G k l q = true := by unfold due; rw [List.mem_filter, List.mem_range]
/-! ## More ticks -/
/-! ## Wider links, narrower called links -/
inductive All2 {α β : Type} (R : α -> β -> Prop) : List α -> List β -> Prop
 | nil : All2 R [] []
 | cons {x y l m} : R x y -> All2 R l m -> All2 R (x :: l) (y :: m)
end Go.Kin.Sg

namespace Go.Kin.Sg
open Go.Kin.St Go.Kin.Ct
def ix (C : List Lk) (q : Nat) : Nat := (into C (q : Int)).getD 0
def frO (C : List Lk) (q : Nat) : Nat := (frm C (ix C q)).toNat
/-- the called points that occur at a tick, with durations -/
def occ (G : Gm) (wt : List Int) (k : Nat) (l : List Int) : List Nat := (may G k l).filter fun q => decide ((k : Int) + 1 - kn l (frO G.C q) = wt.getD (ix G.C q) 0)
/-- what the desk does -/
def own (G : Gm) (t : Tab) (k : Nat) (l : List Int) : List Nat := (doD t k l).filter fun q => decide (q ∈ free G l)
def plS (G : Gm) (wt : List Int) (t : Tab) (k : Nat) (l : List Int) : List Int := put (put l (occ G wt k l) (k + 1)) (own G t k (put l (occ G wt k l) (k + 1))) (k + 1)
def plF (G : Gm) (wt : List Int) (t : Tab) : Nat -> Nat -> List Int -> List Int
 | 0, _, l => l
 | f + 1, k, l => plF G wt t f (k + 1) (plS G wt t k l)
def plA (G : Gm) (wt : List Int) (t : Tab) : List Int := plF G wt t (G.T + 1) 0 (List.replicate G.n 0)
/-- what durations a play has met -/
structure Dj (G : Gm) (wt : List Int) (k : Nat) (l : List Int) : Prop where
 len : l.length = G.n
 bd : ∀ q, 0 <= kn l q /\ kn l q <= k
 yes : ∀ q i x, q < G.n -> into G.C (q : Int) = some i -> G.C[i]? = some x -> kn l q ≠ 0 -> kn l x.fr.toNat ≠ 0 /\ kn l q = kn l x.fr.toNat + wt.getD i 0
 no : ∀ q i x, q < G.n -> into G.C (q : Int) = some i -> G.C[i]? = some x -> kn l q = 0 -> kn l x.fr.toNat ≠ 0 -> (k : Int) + 1 - kn l x.fr.toNat <= wt.getD i 0
/-- durations are right -/
def Dur (G : Gm) (wt : List Int) : Prop := ∀ i x, G.C[i]? = some x -> x.lo <= wt.getD i 0 /\ wt.getD i 0 <= x.hi /\ 1 <= x.lo /\ x.fr.toNat < G.n
theorem lnk_of {C : List Lk} {q i : Nat} {x : Lk} (h1 : into C (q : Int) = some i) (h2 : C[i]? = some x) : lnk C q = some x := by unfold lnk; rw [h1]; exact h2
theorem occ_mem {G : Gm} {wt : List Int} {k : Nat} {l : List Int} {q : Nat} : q ∈ occ G wt k l ↔ q ∈ may G k l /\ (k : Int) + 1 - kn l (frO G.C q) = wt.getD (ix G.C q) 0 := by
 unfold occ; rw [List.mem_filter, decide_eq_true_eq]
theorem ix_of {C : List Lk} {q i : Nat} {x : Lk} (h1 : into C (q : Int) = some i) (h2 : C[i]? = some x) : ix C q = i /\ frO C q = x.fr.toNat := by
 have e : ix C q = i := by unfold ix; rw [h1]; rfl
 refine ⟨e, ?_⟩
 unfold frO; rw [e]; unfold frm; rw [h2]
theorem lnk_some {C : List Lk} {q : Nat} {x : Lk} (h : lnk C q = some x) : ∃ i, into C (q : Int) = some i /\ C[i]? = some x := by
 unfold lnk at h
 cases hi : into C (q : Int) with
 | none => rw [hi] at h; cases h
 | some i => rw [hi] at h; exact ⟨i, rfl, h⟩
theorem occ_ch {G : Gm} {wt : List Int} {k : Nat} {l : List Int} (hw : Dur G wt) (hj : Dj G wt k l) : Ch G k l (occ G wt k l) := by
 refine ⟨List.filter_sublist, fun q hq => occ_mem.2 ⟨due_may hq, ?_⟩⟩
 obtain ⟨hn, h⟩ := due_mem.1 hq
 obtain ⟨x, h1, h2, h3, h4, h5⟩ := dueB_iff.1 h
 obtain ⟨i, g1, g2⟩ := lnk_some h1
 obtain ⟨e1, e2⟩ := ix_of g1 g2
 rw [e1, e2]
 have := hj.no q i x hn g1 g2 h2 h3
 have := hw i x g2
 omega
theorem kn_put_bd {l : List Int} {S : List Nat} {k : Nat} (h : ∀ q, 0 <= kn l q /\ kn l q <= k) : ∀ q, 0 <= kn (put l S (k + 1)) q /\ kn (put l S (k + 1)) q <= (k : Int) + 1 := fun q => by
 by_cases hq : q < l.length
 ·rw [put_kn hq]
  have := h q
  split <;> omega
 ·rw [kn_over (by rw [put_len]; omega)]; omega
/-- a step keeps to the durations, where the desk does what is free alone -/
theorem dj_step {G : Gm} {wt : List Int} {k : Nat} {l : List Int} {D : List Nat} (hw : Dur G wt) (hj : Dj G wt k l) (hD : ∀ q ∈ D, q ∈ free G (put l (occ G wt k l) (k + 1))) : Dj G wt (k + 1) (put (put l (occ G wt k l) (k + 1)) D (k + 1)) := by
 obtain ⟨l1, hl1⟩ : ∃ l1, put l (occ G wt k l) ((k : Int) + 1) = l1 := ⟨_, rfl⟩
 have hlen1 : l1.length = G.n := by rw [<- hl1, put_len, hj.len]
 have hk1 : ∀ q, q < G.n -> kn l1 q = if q ∈ occ G wt k l then (k : Int) + 1 else kn l q := fun q hq => by rw [<- hl1, put_kn (by rw [hj.len]; exact hq)]
 have hb1 : ∀ q, 0 <= kn l1 q /\ kn l1 q <= (k : Int) + 1 := by rw [<- hl1]; exact kn_put_bd hj.bd
 rw [hl1] at hD ⊢
 have hk2 : ∀ q, q < G.n -> kn (put l1 D ((k : Int) + 1)) q = if q ∈ D then (k : Int) + 1 else kn l1 q := fun q hq => put_kn (by rw [hlen1]; exact hq)
 have hDC : ∀ (q i : Nat), into G.C (q : Int) = some i -> q ∉ D := fun q i h hm => by
  have := (free_mem.1 (hD q hm)).2.1
  rw [h] at this; cases this
 -- what is known stays
 have hst1 : ∀ q, q < G.n -> kn l q ≠ 0 -> kn l1 q = kn l q := fun q hq h => by
  rw [hk1 q hq, if_neg]
  intro hm
  obtain ⟨x, _, h2, _⟩ := mayB_iff.1 (may_mem.1 (occ_mem.1 hm).1).2
  exact h h2
 have hst2 : ∀ q, q < G.n -> kn l1 q ≠ 0 -> kn (put l1 D ((k : Int) + 1)) q = kn l1 q := fun q hq h => by
  rw [hk2 q hq, if_neg]
  intro hm
  exact h (free_mem.1 (hD q hm)).2.2
 refine ⟨by rw [put_len, hlen1], fun q => ?_, fun q i x hq h1 h2 h0 => ?_, fun q i x hq h1 h2 h0 hf => ?_⟩
 ·by_cases hq : q < G.n
  ·rw [hk2 q hq]
   have := hb1 q
   push_cast
   split <;> omega
  ·rw [kn_over (by rw [put_len, hlen1]; omega)]; omega
 ·have hfn := (hw i x h2).2.2.2
  rw [hk2 q hq, if_neg (hDC q i h1)] at h0 ⊢
  have key : kn l1 x.fr.toNat ≠ 0 /\ kn l1 q = kn l1 x.fr.toNat + wt.getD i 0 := by
   by_cases hql : kn l q = 0
   ·rw [hk1 q hq] at h0 ⊢
    have hm : q ∈ occ G wt k l := Classical.byContradiction fun h => by rw [if_neg h] at h0; exact h0 hql
    rw [if_pos hm]
    obtain ⟨g1, g2⟩ := occ_mem.1 hm
    obtain ⟨x', g3, _, g5, _⟩ := mayB_iff.1 (may_mem.1 g1).2
    rw [lnk_of h1 h2] at g3
    cases g3
    obtain ⟨e1, e2⟩ := ix_of h1 h2
    rw [e1, e2] at g2
    rw [hst1 _ hfn g5]
    exact ⟨g5, by omega⟩
   ·obtain ⟨g1, g2⟩ := hj.yes q i x hq h1 h2 hql
    rw [hst1 q hq hql, hst1 _ hfn g1]
    exact ⟨g1, g2⟩
  rw [hst2 _ hfn key.1]
  exact key
 ·obtain ⟨w1, w2, w3, hfn⟩ := hw i x h2
  rw [hk2 q hq, if_neg (hDC q i h1)] at h0
  have hqm : q ∉ occ G wt k l := fun hm => by rw [hk1 q hq, if_pos hm] at h0; omega
  have hql : kn l q = 0 := by rw [hk1 q hq, if_neg hqm] at h0; exact h0
  by_cases hfl : kn l x.fr.toNat = 0
  ·have : kn (put l1 D ((k : Int) + 1)) x.fr.toNat = (k : Int) + 1 := by
    rw [hk2 _ hfn] at hf ⊢
    by_cases hm : x.fr.toNat ∈ D
    ·rw [if_pos hm]
    ·rw [if_neg hm] at hf ⊢
     rw [hk1 _ hfn] at hf ⊢
     by_cases hm2 : x.fr.toNat ∈ occ G wt k l
     ·rw [if_pos hm2]
     ·rw [if_neg hm2] at hf; exact absurd hfl hf
   rw [this]; push_cast; omega
  ·have e1 := hst1 _ hfn hfl
   have e2 := hst2 _ hfn (by rw [e1]; exact hfl)
   rw [e2, e1]
   have h3 := hj.no q i x hq h1 h2 hql hfl
   have h4 : (k : Int) + 1 - kn l x.fr.toNat ≠ wt.getD i 0 := fun e => by
    obtain ⟨e1, e2⟩ := ix_of h1 h2
    refine hqm (occ_mem.2 ⟨may_mem.2 ⟨hq, mayB_iff.2 ⟨x, lnk_of h1 h2, hql, hfl, by omega, by omega⟩⟩, ?_⟩)
    rw [e1, e2]; exact e
   push_cast; omega
theorem own_all {G : Gm} {t : Tab} {k : Nat} {l : List Int} (h : ∀ x ∈ doD t k l, x ∈ free G l) : own G t k l = doD t k l := List.filter_eq_self.2 fun x hx => decide_eq_true (h x hx)
/-- a strategy that wins lasts -/
theorem lasts {G : Gm} {wt : List Int} {t : Tab} (hw : Dur G wt) : ∀ {f k : Nat} {l : List Int}, Wn G t f k l -> Dj G wt k l -> keptP G (plF G wt t f k l) /\ Dj G wt (k + f) (plF G wt t f k l)
 | 0, k, l, h, hj => ⟨h, hj⟩
 | f + 1, k, l, h, hj => by
  obtain ⟨h1, h2⟩ := h _ (occ_ch hw hj)
  have e : plS G wt t k l = put (put l (occ G wt k l) (k + 1)) (doD t k (put l (occ G wt k l) (k + 1))) (k + 1) := by unfold plS; rw [own_all h1]
  rw [plF, e, show k + (f + 1) = (k + 1) + f by omega]
  exact lasts hw h2 (dj_step hw hj h1)
theorem kn_zero {n q : Nat} : kn (List.replicate n 0) q = 0 := by
 unfold kn
 rw [List.getD_eq_getElem?_getD, List.getElem?_replicate]
 split <;> rfl
end Go.Kin.Sg

/- Games on networks: the specification's waited. -/
import Derived.Test.YtcodoembnjemkaaGreatSgWn
import Derived.Test.YtcodoembnjemkaaGreatSgPd
set_option maxRecDepth 100000
set_option maxHeartbeats 400000000
set_option linter.unusedSectionVars false
set_option linter.unusedVariables false
set_option linter.unusedSimpArgs false
namespace Go.Proofs
open Go.RowKit Go.Kin Go.Kin.St Go.Kin.Ct Go.Kin.Sg
namespace R24
def wtV (C : List Lk) (k : Int) (f : Nat -> Int) (q : Nat) : List Value := match wtF C k f q with
 | none => [.int .i64 0, .agg ⟨[.int .i64 0, .int .i64 0, .int .i64 0, .int .i64 0]⟩, .bool false]
 | some (m, x) => [.int .i64 m, .agg ⟨R22.lkE x⟩, .bool true]
theorem wtV_some {C : List Lk} {k : Int} {f : Nat -> Int} {q : Nat} {x : Lk} (h : lnk C q = some x) (h1 : f q = 0) (h2 : f x.fr.toNat ≠ 0) : wtV C k f q = [.int .i64 (k + 1 - f x.fr.toNat), .agg ⟨R22.lkE x⟩, .bool true] := by
 unfold wtV wtF; rw [h]; simp only; rw [if_pos ⟨h1, h2⟩]
theorem wtV_none {C : List Lk} {k : Int} {f : Nat -> Int} {q : Nat} (h : ∀ x, lnk C q = some x -> ¬ (f q = 0 /\ f x.fr.toNat ≠ 0)) : wtV C k f q = [.int .i64 0, .agg ⟨[.int .i64 0, .int .i64 0, .int .i64 0, .int .i64 0]⟩, .bool false] := by
 unfold wtV wtF
 cases hx : lnk C q with
 | none => rfl
 | some x => simp only; rw [if_neg (h x hx)]
theorem wait64_calls (n : Nat) (A : Option Addr) (cap : Nat) (L : List Lk) (B : Option Addr) (cab : Nat) (C : List Lk) (k : Nat) (K : Option Addr) (ck : Nat) (l : List Int) (q : Nat) (w : World) (hA : (⟨n, A, cap, L, B, cab, C⟩ : R23.Un).In w) (hK : At w K 1 (l.map inE))
  (hln : l.length = n) (hq : q < n) (hn : n <= 1000) (hk : k <= 1000) (hc : C.length <= 1000) (hC : ∀ x ∈ C, 0 <= x.fr /\ x.fr < n) (hf : ∀ q, 0 <= kn l q /\ kn l q <= 1000) :
  Calls Tryz.prog 88 ⟨[.agg ⟨[.int .i64 n, .slice A L.length cap, .slice B C.length cab]⟩, .int .i64 k, .slice K l.length ck, .int .i64 q]⟩ w fun e w' => e = .returned (.tuple ⟨wtV C k (kn l) q⟩) /\ Below w.heap.size w w' := by
 have hin : ∀ (mem : List (Nat × Obj)) (W : World), SatW w (base w) noJ mem W -> Calls Tryz.prog 90 ⟨[.agg ⟨[.int .i64 n, .slice A L.length cap, .slice B C.length cab]⟩, .int .i64 q]⟩ W fun e w' => e = .returned (.int .i64 (R23.intoI C q)) /\ Below W.heap.size W w' := fun mem W hW =>
  into65_calls ⟨n, A, cap, L, B, cab, C⟩ q W (hA.sat hW) (by show C.length <= _; omega)
 refine fEn Tryz.func88 rfl Tryz.ntmps88 rfl rfl (sWn w) ?_
 repeat (first|refine lVa rfl rfl (by first|exact pEv rfl|exact vLd rfl (by repeat constructor) rfl (by rfl)|fail) ?_|refine lNi ?_|refine cRg ?_|refine cSq ?_|refine xTh ?_|refine r_box rfl rfl rfl rfl (fun _ => ?_)|refine r_alloc rfl rfl rfl (by first|exact aggL|fail) (fun _ => ?_)|fail)
 refine r_call rfl rfl rfl (fun W hW => hin _ W hW) ?_
 obtain ⟨bk, ok, hKe, hq1⟩ := hK q (inE (kn l q)) (by rw [List.getElem?_map, kn_at (by omega)]; rfl)
 have eq1 := ext_of hq1
 rw [Nat.mul_one] at eq1
 subst hKe
 cases hi : into C (q : Int) with
 | none =>
  rw [R23.intoI_none hi]
  have hv := wtV_none (C := C) (k := k) (f := kn l) (q := q) fun x hx => by unfold lnk at hx; rw [hi] at hx; cases hx
  repeat (first|refine lVa rfl rfl (by first|exact pEv rfl|exact v_build rfl rfl (by rfl)|fail) ?_|refine lNi ?_|refine cRg ?_|refine cSq ?_|refine xTh ?_|refine l_skip rfl rfl ?_|refine rSt rfl rfl rfl rfl rfl rfl rfl (by repeat constructor) (by rfl) ?_|refine c_true rfl ?_|refine c_ret ?_|refine xTr ?_|fail)
  exact x_ret rfl rfl (by repeat constructor) rfl (fun W hW => ⟨by rw [hv], hW.below⟩)
 | some i =>
  rw [R23.intoI_some hi]
  obtain ⟨y, hy⟩ : ∃ y, C[i]? = some y := by
   have := iv_some hi
   exact ⟨_, List.getElem?_eq_getElem (into_lt hi)⟩
  have hly := lnk_of hi hy
  obtain ⟨f1, f2⟩ := hC y (List.mem_of_getElem? hy)
  by_cases c1 : kn l q = 0
  rotate_left
  ·have hv := wtV_none (C := C) (k := k) (f := kn l) (q := q) fun x hx h => c1 h.1
   repeat (first|refine lVa rfl rfl (by first|exact pEv rfl|exact vL0 rfl (by assumption) rfl (by rfl)|exact v_index rfl rfl rfl rfl (by omega) (by omega) (by with_reducible first|exact idx2 _ _|exact idx5 _|exact idx7 _ _|fail)|exact v_build rfl rfl (by rfl)|fail) ?_|refine lNi ?_|refine cRg ?_|refine cSq ?_|refine xTh ?_|refine l_skip rfl rfl ?_|refine rSt rfl rfl rfl rfl rfl rfl rfl (by repeat constructor) (by rfl) ?_|refine c_true rfl ?_|refine c_ret ?_|refine xTr ?_|refine l_dec_t rfl rfl rfl rfl rfl (by first|omega|fail) ?_|fail)
   exact x_ret rfl rfl (by repeat constructor) rfl (fun W hW => ⟨by rw [hv], hW.below⟩)
  obtain ⟨F, hF⟩ : ∃ F : Nat, y.fr = F := ⟨y.fr.toNat, by omega⟩
  obtain ⟨bk', ok', hKe', hq2⟩ := hK F (inE (kn l F)) (by rw [List.getElem?_map, kn_at (by omega)]; rfl)
  cases hKe'
  have eq2 := ext_of hq2
  rw [Nat.mul_one] at eq2
  obtain ⟨bC, oC, hBe, hc2⟩ := hA.c i (R22.lkE y) (by simp [hy])
  simp only at hBe
  have eqC : Ext w (base w) bC (oC + i * 4) (R22.lkE y) := ext_of hc2
  have hil := (List.getElem?_eq_some_iff.1 hy).1
  have hFt : y.fr.toNat = F := by omega
  have hlE : R22.lkE y = [.int .i64 F, .int .i64 y.to, .int .i64 y.lo, .int .i64 y.hi] := by unfold R22.lkE; rw [hF]
  have hfF := hf F
  subst hBe
  rw [c1] at eq1
  by_cases c2 : kn l F = 0
  ·have hv := wtV_none (C := C) (k := k) (f := kn l) (q := q) fun x hx h => by
    rw [hly] at hx; cases hx
    rw [hFt] at h; exact h.2 c2
   rw [hlE] at eqC
   repeat (first|refine lVa rfl rfl (by first|exact pEv rfl|exact vLd rfl (by repeat constructor) rfl (by rfl)|exact vL0 rfl (by assumption) rfl (by rfl)|exact v_index rfl rfl rfl rfl (by omega) (by omega) (by with_reducible first|exact idx2 _ _|exact idx4 _ _ _|fail)|exact v_build rfl rfl (by rfl)|fail) ?_|refine lNi ?_|refine cRg ?_|refine cSq ?_|refine xTh ?_|refine rSt rfl rfl rfl rfl rfl rfl rfl (by repeat constructor) (by rfl) ?_|refine c_dec_t rfl (by first|omega|fail) ?_|refine c_ret ?_|refine xTr ?_|fail)
   exact x_ret rfl rfl (by repeat constructor) rfl (fun W hW => ⟨by rw [hv], hW.below⟩)
  ·have hv := wtV_some (k := k) (f := kn l) hly c1 (by rw [hFt]; exact c2)
   rw [hFt, hlE] at hv
   rw [hlE] at eqC
   repeat ((fail_if_success refine c_probe (id := 4) ?_); (fail_if_success refine c_probe1 (id := 4) ?_); first|refine lVa rfl rfl (by first|exact pEv rfl|exact vLd rfl (by repeat constructor) rfl (by rfl)|exact vL0 rfl (by assumption) rfl (by rfl)|exact v_index rfl rfl rfl rfl (by omega) (by omega) (by with_reducible first|exact idx2 _ _|exact idx4 _ _ _|fail)|fail) ?_|refine lNi ?_|refine cRg ?_|refine cSq ?_|refine xTh ?_|refine c_dec_f rfl (by first|omega|fail) ?_|refine cSk ?_|fail)
   repeat refine cSq ?_
   refine c_new 1 0 [(18, .sto 0 0 4)] [(18, [0])] [] rfl (by decide +kernel) rfl ?_
   repeat (first|refine xTh ?_|refine c_ret ?_|refine e_val rfl rfl rfl rfl (by first|exact v_add rfl rfl (by omega) (by omega)|exact v_sub rfl rfl (by omega) (by omega)|exact pEv rfl|exact vLd rfl (by repeat constructor) rfl (by rfl)|exact vL0 rfl (by assumption) rfl (by rfl)|exact v_index rfl rfl rfl rfl (by omega) (by omega) (by with_reducible first|exact idx2 _ _|exact idx4 _ _ _|fail)|fail) ?_|refine e_store rfl rfl rfl rfl rfl rfl rfl rfl (by first|rfl|fail) rfl rfl (by first|(simp; done)|fail) (by first|exact splice_lit (by rfl)|fail) ?_|refine e_nil rfl ?_|fail)
   exact x_ret rfl rfl (by repeat constructor) rfl (fun W hW => ⟨by rw [hv], hW.below⟩)
end R24
end Go.Proofs

set_option maxRecDepth 100000
set_option maxHeartbeats 400000000
namespace Go.Proofs
open Go.RowKit Go.Kin Go.Kin.St Go.Kin.Ct Go.Kin.Sg
namespace R24
/-- a list handed back in a block of its own -/
def NwQ (l : List Int) (w : World) (e : Ending) (w' : World) : Prop := ∃ b cap rest, e = .returned (.slice (some ⟨b, 0, none⟩) l.length cap) /\ Grow 1 l.length (flI l) cap rest /\ Below w.heap.size w w' /\ w.heap.size <= b /\ w'.heap[b]? = some (.cells ⟨flI l ++ rest⟩ 3 (0, 0))
theorem flI_eq : ∀ {l : List Int}, flI l = l.map fun x => Value.int .i64 x
 | [] => rfl
 | x :: l => by
  show Value.int .i64 x :: flI l = _
  rw [flI_eq]; rfl
theorem flI_set {l : List Int} {r : List Value} {q : Nat} {v : Int} (h : q < l.length) : (flI l ++ r).set (0 + q) (.int .i64 v) = flI (l.set q v) ++ r := by
 rw [flI_eq, flI_eq, Nat.zero_add, List.set_append_left _ _ (by rw [List.length_map]; exact h), List.map_set]
theorem put_take {l : List Int} {s : List Nat} {v : Int} {i q : Nat} (h : s[i]? = some q) : put l (s.take (i + 1)) v = (put l (s.take i) v).set q v := by
 unfold put
 rw [List.take_add_one, h, List.foldl_append]; rfl
theorem put66_calls (K : Option Addr) (ck : Nat) (l : List Int) (M : Option Addr) (cm : Nat) (s : List Nat) (k : Nat) (w : World) (hK : At w K 1 (l.map inE)) (hM : At w M 1 (s.map nE)) (hl : l.length <= 1000) (hne : l ≠ []) (hs : ∀ q ∈ s, q < l.length) (hsl : s.length <= 1000) (hk : k <= 1000) :
  Calls Tryz.prog 62 ⟨[.slice K l.length ck, .slice M s.length cm, .int .i64 k]⟩ w (NwQ (put l s ((k : Int) + 1)) w) := by
 obtain ⟨bK, oK, hKe, _⟩ := at_cells hK hne
 subst hKe
 refine fEn Tryz.func62 rfl Tryz.ntmps62 rfl rfl (sWn w) ?_
 repeat (first|refine lVa rfl rfl (by first|exact pEv rfl|fail) ?_|refine lNi ?_|refine cRg ?_|refine cSq ?_|refine xTh ?_|refine r_buildSlice rfl rfl rfl rfl rfl rfl (by rfl) (fun _ => ?_)|fail)
 refine r_append (xs := []) (rest := []) (n := 0) (cap := 0) (ys := flI l) rfl rfl rfl rfl rfl rfl (news_at fun W hW => hK.sat hW) Rem.head ⟨rfl, rfl, Nat.le_refl _, Nat.zero_le _⟩ flI_len flI_one rfl (by omega) (by unfold maxLen; omega) (fun b' c' r' hg => ?_)
 rw [Nat.zero_add] at hg ⊢
 rw [List.nil_append] at hg ⊢
 repeat (first|refine lVa rfl rfl (by first|exact pEv rfl|fail) ?_|refine lNi ?_|refine cRg ?_|refine cSq ?_|refine xTh ?_|refine cBl ?_|fail)
 refine c_loop (ι := Nat) (fun i => i <= s.length) (fun i => [(1, .slice M s.length cm), (2, .int .i64 k), (7, .slice (some ⟨b', 0, none⟩) l.length c'), (8, .int .i64 i)])
  (fun i => [(b', .cells ⟨flI (put l (s.take i) ((k : Int) + 1)) ++ r'⟩ 3 (0, 0))]) (fun i => s.length - i) 0 (Nat.zero_le _) (by repeat (first|exact .nil|refine .cons rfl (by first|rfl|(congr 1; done)|exact congrArg _ (by omega)|(simp; done)) ?_)) (by repeat (first|exact .nil|refine .keep (by first|rfl|assumption) ?_|refine .drop ?_|exact MSub.refl _)) ?_
 intro i hi
 have hpl : (put l (s.take i) ((k : Int) + 1)).length = l.length := put_len
 by_cases hlt : i < s.length
 ·obtain ⟨q, hq⟩ : ∃ q, s[i]? = some q := ⟨_, List.getElem?_eq_getElem hlt⟩
  have hql := hs q (List.mem_of_getElem? hq)
  obtain ⟨bm, om, rfl, hc⟩ := hM i (nE q) (by simp [hq])
  have e1 := ext_of hc
  rw [Nat.mul_one] at e1
  have hst : (flI (put l (s.take i) ((k : Int) + 1)) ++ r').set q (.int .i64 ((k : Int) + 1)) = flI (put l (s.take (i + 1)) ((k : Int) + 1)) ++ r' := by
   have := flI_set (l := put l (s.take i) ((k : Int) + 1)) (r := r') (q := q) (v := (k : Int) + 1) (by omega)
   rw [Nat.zero_add] at this
   rw [this, put_take hq]
  have hln : (flI (put l (s.take i) ((k : Int) + 1)) ++ r').length = l.length + r'.length := by rw [List.length_append, flI_len, hpl, Nat.mul_one]
  repeat (first|refine lVa rfl rfl (by first|exact v_add rfl rfl (by omega) (by omega)|exact pEv rfl|exact vL0 rfl (by assumption) rfl (by rfl)|exact v_index rfl rfl rfl rfl (by omega) (by omega) (by with_reducible first|exact idx1 _|exact idx2 _ _|fail)|fail) ?_|refine lNi ?_|refine cRg ?_|refine cSq ?_|refine xTh ?_|refine c_dec_t rfl (by first|omega|fail) ?_|refine cBl ?_|refine cSk ?_|refine x_block ?_|refine r_store_at rfl rfl rfl rfl rfl rfl (by repeat constructor) (by rw [hln]; omega) hst ?_|fail)
  exact x_back (i + 1) hlt (by omega) (by repeat (first|exact .nil|refine .cons rfl (by first|rfl|(congr 1; done)|exact congrArg _ (by omega)|(simp; done)) ?_)) (by repeat (first|exact .nil|refine .keep (by first|rfl|assumption) ?_|refine .drop ?_|exact MSub.refl _))
 ·have hil : i = s.length := by omega
  subst hil
  rw [List.take_length] at hpl ⊢
  repeat (first|refine lVa rfl rfl (by first|exact pEv rfl|fail) ?_|refine lNi ?_|refine cRg ?_|refine cSq ?_|refine xTh ?_|refine c_dec_f rfl (by first|omega|fail) ?_|refine c_ret ?_|refine c_exit ?_|refine xTe ?_|refine xBs ?_|fail)
  refine x_ret rfl rfl (by repeat constructor) rfl (fun W hW => ?_)
  have h := hW.own (b', _) (by repeat constructor)
  refine ⟨b', c', r', by rw [hpl], ?_, hW.below, Nat.le_of_not_lt h.1, h.2⟩
  obtain ⟨g1, g2, g3, g4⟩ := hg
  have e : (flI (put l s ((k : Int) + 1))).length = (flI l).length := by rw [flI_len, flI_len, hpl]
  rw [hpl]
  exact ⟨by rw [e]; exact g1, by first|exact g2|(rw [List.length_append, e, <- List.length_append]; exact g2), g3, g4⟩
end R24
end Go.Proofs

set_option maxRecDepth 100000
set_option maxHeartbeats 400000000
namespace Go.Proofs
open Go.RowKit Go.Kin Go.Kin.St Go.Kin.Ct Go.Kin.Sg
namespace R24
def frP (C : List Lk) (l : List Int) (q : Nat) : Bool := (into C (q : Int)).isNone && decide (kn l q = 0)
def frI (C : List Lk) (l : List Int) (i : Nat) : List Int := castL ((List.range i).filter (frP C l))
theorem frI_succ {C : List Lk} {l : List Int} {i : Nat} : frI C l (i + 1) = frI C l i ++ (if frP C l i then [(i : Int)] else []) := by
 unfold frI castL
 rw [List.range_succ, List.filter_append, List.map_append]
 congr 1
 cases h : frP C l i <;> simp [h]
theorem frI_len {C : List Lk} {l : List Int} {i : Nat} : (frI C l i).length <= i := by
 unfold frI; rw [castL_len]
 exact Nat.le_trans (List.length_filter_le _ _) (by rw [List.length_range]; exact Nat.le_refl _)
theorem free68_calls (n : Nat) (A : Option Addr) (cap : Nat) (L : List Lk) (B : Option Addr) (cab : Nat) (C : List Lk) (K : Option Addr) (ck : Nat) (l : List Int) (w : World) (hA : (⟨n, A, cap, L, B, cab, C⟩ : R23.Un).In w) (hK : At w K 1 (l.map inE))
  (hln : l.length = n) (hn : n <= 1000) (hc : C.length <= 1000) :
  Calls Tryz.prog 65 ⟨[.agg ⟨[.int .i64 n, .slice A L.length cap, .slice B C.length cab]⟩, .slice K l.length ck]⟩ w (NwQ (frI C l n) w) := by
 have hin : ∀ (q : Nat) (mem : List (Nat × Obj)) (W : World), SatW w (base w) noJ mem W -> Calls Tryz.prog 90 ⟨[.agg ⟨[.int .i64 n, .slice A L.length cap, .slice B C.length cab]⟩, .int .i64 q]⟩ W fun e w' => e = .returned (.int .i64 (R23.intoI C q)) /\ Below W.heap.size W w' := fun q mem W hW =>
  into65_calls ⟨n, A, cap, L, B, cab, C⟩ q W (hA.sat hW) (by show C.length <= _; omega)
 refine fEn Tryz.func65 rfl Tryz.ntmps65 rfl rfl (sWn w) ?_
 repeat (first|refine lVa rfl rfl (by first|exact pEv rfl|fail) ?_|refine lNi ?_|refine cRg ?_|refine cSq ?_|refine xTh ?_|refine r_box rfl rfl rfl rfl (fun _ => ?_)|refine r_buildSlice rfl rfl rfl rfl rfl rfl (by rfl) (fun _ => ?_)|refine cBl ?_|fail)
 rename_i b3 b7
 refine c_loop (ι := LS) (fun s => s.i <= n /\ Grow 1 (frI C l s.i).length (flI (frI C l s.i)) s.c s.r) (fun s => [(1, .slice K l.length ck), (2, .pointer (some ⟨b3, 0, none⟩)), (5, .slice (some ⟨s.b, 0, none⟩) (frI C l s.i).length s.c), (6, .int .i64 s.i)])
  (fun s => [(s.b, .cells ⟨flI (frI C l s.i) ++ s.r⟩ 3 (0, 0)), (b3, .cells ⟨[.int .i64 n, .slice A L.length cap, .slice B C.length cab]⟩ 24 (0, 0))]) (fun s => n - s.i) ⟨0, b7, 0, []⟩ ⟨Nat.zero_le _, ⟨rfl, rfl, Nat.le_refl _, Nat.zero_le _⟩⟩ (by repeat (first|exact .nil|refine .cons rfl (by first|rfl|(congr 1; done)|exact congrArg _ (by omega)|(simp; done)) ?_)) (by repeat (first|exact .nil|refine .keep (by first|rfl|assumption) ?_|refine .drop ?_|exact MSub.refl _)) ?_
 rintro ⟨i, bb, cc, r⟩ ⟨hi, hgr⟩
 simp only at hi hgr ⊢
 have hfl := frI_len (C := C) (l := l) (i := i)
 by_cases hlt : i < n
 ·obtain ⟨bk, ok, hKe, hq1⟩ := hK i (inE (kn l i)) (by rw [List.getElem?_map, kn_at (by omega)]; rfl)
  have eq1 := ext_of hq1
  rw [Nat.mul_one] at eq1
  subst hKe
  have hsu := frI_succ (C := C) (l := l) (i := i)
  repeat ((fail_if_success refine c_probe (id := 5) ?_); (fail_if_success refine c_probe1 (id := 5) ?_); first|refine lVa rfl rfl (by first|exact pEv rfl|exact vLd rfl (by repeat constructor) rfl (by rfl)|fail) ?_|refine lNi ?_|refine cRg ?_|refine cSq ?_|refine xTh ?_|refine c_dec_t rfl (by first|omega|fail) ?_|refine cBl ?_|refine cSk ?_|fail)
  refine cSq ?_
  repeat (first|refine lVa rfl rfl (by first|exact pEv rfl|exact vLd rfl (by repeat constructor) rfl (by rfl)|fail) ?_|refine cRg ?_|fail)
  refine r_call rfl rfl rfl (fun W hW => hin i _ W hW) ?_
  cases hi2 : into C (i : Int) with
  | some j =>
   have hp : frP C l i = false := by unfold frP; rw [hi2]; rfl
   rw [hp, if_neg (by decide), List.append_nil] at hsu
   rw [R23.intoI_some hi2]
   repeat (first|refine lVa rfl rfl (by first|exact v_add rfl rfl (by omega) (by omega)|exact pEv rfl|fail) ?_|refine lNi ?_|refine cRg ?_|refine xTh ?_|refine l_skip rfl rfl ?_|refine c_false rfl ?_|refine cSk ?_|refine x_block ?_|fail)
   exact x_back ⟨i + 1, bb, cc, r⟩ ⟨hlt, by simp only; rw [hsu]; exact hgr⟩ (by simp only; omega) (by simp only [hsu]; exact (by repeat (first|exact .nil|refine .cons rfl (by first|rfl|(congr 1; done)|exact congrArg _ (by omega)|(simp; done)) ?_))) (by simp only [hsu]; exact (by repeat (first|exact .nil|refine .keep (by first|rfl|assumption) ?_|refine .drop ?_|exact MSub.refl _)))
  | none =>
   rw [R23.intoI_none hi2]
   by_cases c1 : kn l i = 0
   rotate_left
   ·have hp : frP C l i = false := by unfold frP; rw [decide_eq_false c1, Bool.and_false]
    rw [hp, if_neg (by decide), List.append_nil] at hsu
    repeat (first|refine lVa rfl rfl (by first|exact v_add rfl rfl (by omega) (by omega)|exact pEv rfl|exact vL0 rfl (by assumption) rfl (by rfl)|exact v_index rfl rfl rfl rfl (by omega) (by omega) (by with_reducible first|exact idx2 _ _|fail)|fail) ?_|refine lNi ?_|refine cRg ?_|refine xTh ?_|refine c_dec_f rfl (by first|omega|fail) ?_|refine cSk ?_|refine x_block ?_|fail)
    exact x_back ⟨i + 1, bb, cc, r⟩ ⟨hlt, by simp only; rw [hsu]; exact hgr⟩ (by simp only; omega) (by simp only [hsu]; exact (by repeat (first|exact .nil|refine .cons rfl (by first|rfl|(congr 1; done)|exact congrArg _ (by omega)|(simp; done)) ?_))) (by simp only [hsu]; exact (by repeat (first|exact .nil|refine .keep (by first|rfl|assumption) ?_|refine .drop ?_|exact MSub.refl _)))
   ·have hp : frP C l i = true := by unfold frP; rw [hi2, decide_eq_true c1]; rfl
    rw [hp, if_pos rfl] at hsu
    have hfl2 : flI (frI C l i) ++ [Value.int .i64 i] = flI (frI C l (i + 1)) := by rw [hsu, flI_eq, flI_eq, List.map_append]; rfl
    have hle2 : (frI C l i).length + 1 = (frI C l (i + 1)).length := by rw [hsu, List.length_append]; rfl
    repeat (first|refine lVa rfl rfl (by first|exact pEv rfl|exact vL0 rfl (by assumption) rfl (by rfl)|exact v_index rfl rfl rfl rfl (by omega) (by omega) (by with_reducible first|exact idx2 _ _|fail)|fail) ?_|refine lNi ?_|refine cRg ?_|refine xTh ?_|refine r_buildSlice rfl rfl rfl rfl rfl rfl (by rfl) (fun _ => ?_)|refine c_dec_t rfl (by first|omega|fail) ?_|fail)
    refine r_append (xs := flI (frI C l i)) (rest := r) (n := (frI C l i).length) (cap := cc) (ys := [.int .i64 i]) rfl rfl rfl rfl rfl rfl (news_own (by repeat constructor)) (Rem.tail Rem.head) hgr rfl rfl rfl (by omega) (by unfold maxLen; omega) (fun b' c' r' hg => ?_)
    rw [hfl2, hle2] at hg ⊢
    repeat (first|refine lVa rfl rfl (by first|exact v_add rfl rfl (by omega) (by omega)|exact pEv rfl|fail) ?_|refine lNi ?_|refine cRg ?_|refine xTh ?_|refine x_block ?_|fail)
    exact x_back ⟨i + 1, b', c', r'⟩ ⟨hlt, hg⟩ (by simp only; omega) (by repeat (first|exact .nil|refine .cons rfl (by first|rfl|(congr 1; done)|exact congrArg _ (by omega)|(simp; done)) ?_)) (by repeat (first|exact .nil|refine .keep (by first|rfl|assumption) ?_|refine .drop ?_|exact MSub.refl _))
 ·have hqe : i = n := by omega
  subst hqe
  repeat (first|refine lVa rfl rfl (by first|exact pEv rfl|exact vLd rfl (by repeat constructor) rfl (by rfl)|fail) ?_|refine lNi ?_|refine cRg ?_|refine cSq ?_|refine xTh ?_|refine c_dec_f rfl (by first|omega|fail) ?_|refine c_ret ?_|refine c_exit ?_|refine xTe ?_|refine xBs ?_|fail)
  refine x_ret rfl rfl (by repeat constructor) rfl (fun W hW => ?_)
  have h := hW.own (bb, _) (by repeat constructor)
  exact ⟨bb, cc, r, rfl, hgr, hW.below, Nat.le_of_not_lt h.1, h.2⟩
end R24
end Go.Proofs

set_option maxRecDepth 100000
set_option maxHeartbeats 400000000
namespace Go.Proofs
open Go.RowKit Go.Kin Go.Kin.St Go.Kin.Ct Go.Kin.Sg
namespace R24
theorem rowOf_at {k : Nat} {l : List Int} {r : DW} : ∀ {rows : List DW} {i : Nat}, (∀ j x, j < i -> rows[j]? = some x -> ¬ (x.k = (k : Int) /\ x.l = l)) -> rows[i]? = some r -> r.k = (k : Int) -> r.l = l -> rowOf rows k l = some r
 | [], _, _, h, _, _ => by simp at h
 | x :: rows, 0, _, h, hk, hl => by
  simp only [List.getElem?_cons_zero, Option.some.injEq] at h
  subst h
  unfold rowOf
  rw [List.find?_cons_of_pos (by simp [hk, hl])]
 | x :: rows, i + 1, hF, h, hk, hl => by
  have h0 := hF 0 x (Nat.succ_pos i) rfl
  unfold rowOf
  rw [List.find?_cons_of_neg (by simpa using h0)]
  exact rowOf_at (i := i) (fun j y hj hy => hF (j + 1) y (by omega) hy) h hk hl
theorem rowOf_no {k : Nat} {l : List Int} {rows : List DW} (h : ∀ (j : Nat) (x : DW), rows[j]? = some x -> ¬ (x.k = (k : Int) /\ x.l = l)) : rowOf rows k l = none := by
 unfold rowOf
 rw [List.find?_eq_none]
 intro x hx
 obtain ⟨j, hj, e⟩ := List.mem_iff_getElem.1 hx
 have := h j x (by rw [List.getElem?_eq_getElem hj, e])
 simpa using this
def rwV (rows : List DW) (k : Nat) (l : List Int) : List Value := match rowOf rows k l with
 | some r => [.slice r.D r.d.length r.cd, .bool true]
 | none => [.slice none 0 0, .bool false]
theorem rwV_some {rows : List DW} {k : Nat} {l : List Int} {r : DW} (h : rowOf rows k l = some r) : rwV rows k l = [.slice r.D r.d.length r.cd, .bool true] := by unfold rwV; rw [h]
theorem rwV_none {rows : List DW} {k : Nat} {l : List Int} (h : rowOf rows k l = none) : rwV rows k l = [.slice none 0 0, .bool false] := by unfold rwV; rw [h]
theorem choice67_calls (S : Option Addr) (cs : Nat) (rows : List DW) (k : Nat) (K : Option Addr) (ck : Nat) (l : List Int) (w : World) (hS : StrIn w S rows) (hrl : rows.length <= 1000000) (hK : At w K 1 (l.map inE)) (hl : ∀ r ∈ rows, r.l.length = l.length) (hln : l.length <= 1000) (hk : k <= 1000) :
  Calls Tryz.prog 63 ⟨[.slice S rows.length cs, .int .i64 k, .slice K l.length ck]⟩ w fun e w' => e = .returned (.tuple ⟨rwV rows k l⟩) /\ Below w.heap.size w w' := by
 refine fEn Tryz.func63 rfl Tryz.ntmps63 rfl rfl (sWn w) ?_
 repeat (first|refine lVa rfl rfl (by first|exact pEv rfl|fail) ?_|refine lNi ?_|refine cRg ?_|refine cSq ?_|refine xTh ?_|refine cBl ?_|fail)
 refine c_loop (ι := Nat) (fun i => i <= rows.length /\ ∀ j r, j < i -> rows[j]? = some r -> ¬ (r.k = (k : Int) /\ r.l = l)) (fun i => [(0, .slice S rows.length cs), (1, .int .i64 k), (2, .slice K l.length ck), (8, .int .i64 i)])
  (fun _ => []) (fun i => rows.length - i) 0 ⟨Nat.zero_le _, fun j r hj => by omega⟩ (by repeat (first|exact .nil|refine .cons rfl (by first|rfl|(congr 1; done)|exact congrArg _ (by omega)|(simp; done)) ?_)) (by repeat (first|exact .nil|refine .keep (by first|rfl|assumption) ?_|refine .drop ?_|exact MSub.refl _)) ?_
 rintro i ⟨hi, hF⟩
 by_cases hlt : i < rows.length
 ·obtain ⟨r, hr⟩ : ∃ r, rows[i]? = some r := ⟨_, List.getElem?_eq_getElem hlt⟩
  have hrm := List.mem_of_getElem? hr
  obtain ⟨bS, oS, hSe, hcr⟩ := hS.r i (dwE r) (by rw [List.getElem?_map, hr]; rfl)
  have he := ext_of hcr
  subst hSe
  have hll := hl r hrm
  have hcl : ∀ (mem : List (Nat × Obj)) (W : World), SatW w (base w) noJ mem W -> Calls Tryz.prog 58 ⟨[.slice r.K r.l.length r.ck, .slice K l.length ck]⟩ W fun e w' => e = .returned (.int .i64 (cmpL r.l l)) /\ Below W.heap.size W w' := fun mem W hW =>
   cmp63_calls r.K K r.ck ck r.l l W ((hS.k r hrm).sat hW) (hK.sat hW) (by omega) hll
  have hnx : ¬ (r.k = (k : Int) /\ r.l = l) -> ∀ j x, j < i + 1 -> rows[j]? = some x -> ¬ (x.k = (k : Int) /\ x.l = l) := fun hn j x hj hx => by
   by_cases hji : j < i
   ·exact hF j x hji hx
   ·have e : j = i := by omega
    subst e
    rw [hr] at hx; cases hx; exact hn
  by_cases c1 : r.k = k
  ·by_cases c2 : cmpL r.l l = 0
   ·have hv := rwV_some (rowOf_at hF hr c1 ((cmpL_zero hll).1 c2))
    clear hF hnx
    repeat (first|refine lVa rfl rfl (by first|exact pEv rfl|exact vL0 rfl (by assumption) rfl (by rfl)|exact vLe rfl (by assumption) rfl (by rfl)|exact v_index rfl rfl rfl rfl (by omega) (by omega) (by with_reducible first|exact idx4 _ _ _|fail)|fail) ?_|refine lNi ?_|refine cRg ?_|refine cSq ?_|refine xTh ?_|refine c_dec_t rfl (by first|omega|fail) ?_|refine cBl ?_|refine cSk ?_|refine l_dec_t rfl rfl rfl rfl rfl (by first|omega|fail) ?_|fail)
    refine r_call rfl rfl rfl (fun W hW => hcl _ W hW) ?_
    repeat (first|refine lVa rfl rfl (by first|exact pEv rfl|exact vLe rfl (by assumption) rfl (by rfl)|exact v_index rfl rfl rfl rfl (by omega) (by omega) (by with_reducible first|exact idx4 _ _ _|fail)|fail) ?_|refine lNi ?_|refine cRg ?_|refine cSq ?_|refine xTh ?_|refine c_dec_t rfl (by first|omega|fail) ?_|refine c_ret ?_|refine xTr ?_|refine xBr ?_|fail)
    exact x_ret rfl rfl (by repeat constructor) rfl (fun W hW => ⟨by rw [hv], hW.below⟩)
   ·have hF2 := hnx fun g => c2 ((cmpL_zero hll).2 g.2)
    clear hF hnx
    repeat (first|refine lVa rfl rfl (by first|exact pEv rfl|exact vL0 rfl (by assumption) rfl (by rfl)|exact vLe rfl (by assumption) rfl (by rfl)|exact v_index rfl rfl rfl rfl (by omega) (by omega) (by with_reducible first|exact idx4 _ _ _|fail)|fail) ?_|refine lNi ?_|refine cRg ?_|refine cSq ?_|refine xTh ?_|refine c_dec_t rfl (by first|omega|fail) ?_|refine cBl ?_|refine cSk ?_|refine l_dec_t rfl rfl rfl rfl rfl (by first|omega|fail) ?_|fail)
    refine r_call rfl rfl rfl (fun W hW => hcl _ W hW) ?_
    repeat (first|refine lVa rfl rfl (by first|exact v_add rfl rfl (by omega) (by omega)|exact pEv rfl|fail) ?_|refine lNi ?_|refine cRg ?_|refine xTh ?_|refine c_dec_f rfl (by first|omega|fail) ?_|refine cSk ?_|refine x_block ?_|fail)
    exact x_back (i + 1) ⟨hlt, hF2⟩ (by omega) (by repeat (first|exact .nil|refine .cons rfl (by first|rfl|(congr 1; done)|exact congrArg _ (by omega)|(simp; done)) ?_)) (by repeat (first|exact .nil|refine .keep (by first|rfl|assumption) ?_|refine .drop ?_|exact MSub.refl _))
  ·have hF2 := hnx fun g => c1 g.1
   clear hF hnx
   repeat (first|refine lVa rfl rfl (by first|exact v_add rfl rfl (by omega) (by omega)|exact pEv rfl|exact vL0 rfl (by assumption) rfl (by rfl)|exact v_index rfl rfl rfl rfl (by omega) (by omega) (by with_reducible first|exact idx4 _ _ _|fail)|fail) ?_|refine lNi ?_|refine cRg ?_|refine cSq ?_|refine xTh ?_|refine l_skip rfl rfl ?_|refine c_false rfl ?_|refine c_dec_t rfl (by first|omega|fail) ?_|refine cBl ?_|refine cSk ?_|refine x_block ?_|refine l_dec_f rfl rfl rfl rfl rfl (by first|omega|fail) ?_|fail)
   exact x_back (i + 1) ⟨hlt, hF2⟩ (by omega) (by repeat (first|exact .nil|refine .cons rfl (by first|rfl|(congr 1; done)|exact congrArg _ (by omega)|(simp; done)) ?_)) (by repeat (first|exact .nil|refine .keep (by first|rfl|assumption) ?_|refine .drop ?_|exact MSub.refl _))
 ·have hil : i = rows.length := by omega
  subst hil
  have hv := rwV_none (rowOf_no fun j x hx => hF j x (List.getElem?_eq_some_iff.1 hx).1 hx)
  repeat (first|refine lVa rfl rfl (by first|exact pEv rfl|fail) ?_|refine lNi ?_|refine cRg ?_|refine cSq ?_|refine xTh ?_|refine c_dec_f rfl (by first|omega|fail) ?_|refine c_ret ?_|refine c_exit ?_|refine xTe ?_|refine xBs ?_|fail)
  exact x_ret rfl rfl (by repeat constructor) rfl (fun W hW => ⟨by rw [hv], hW.below⟩)
end R24
end Go.Proofs

namespace Go.Proofs
open Go.RowKit Go.Kin Go.Kin.St Go.Kin.Ct Go.Kin.Sg
namespace R24
/-- what a call hands back that answers `NwQ` -/
def NwR (l : List Int) : Type := { p : Nat × Nat × List Value // Grow 1 l.length (flI l) p.2.1 p.2.2 }
theorem NwQ.r {l : List Int} {w w' : World} {e : Ending} (h : NwQ l w e w') : ∃ i : NwR l, e = .returned (.slice (some ⟨i.1.1, 0, none⟩) l.length i.1.2.1) /\ Below w.heap.size w w' /\ w.heap.size <= i.1.1 /\ w'.heap[i.1.1]? = some (.cells ⟨flI l ++ i.1.2.2⟩ 3 (0, 0)) := by
 obtain ⟨b, c, r, h1, h2, h3, h4, h5⟩ := h
 exact ⟨⟨(b, c, r), h2⟩, h1, h3, h4, h5⟩
theorem at_flI {w0 W : World} {D : Nat -> Prop} {J : (Nat -> Prop) -> World -> Prop} {mem : List (Nat × Obj)} {b : Nat} {l : List Int} {r : List Value} {T : TypeId} {fr : Nat × Nat} (hW : SatW w0 D J mem W) (hm : (b, Obj.cells ⟨flI l ++ r⟩ T fr) ∈ mem) : At W (some ⟨b, 0, none⟩) 1 (l.map inE) := fun i cs hi => by
 rw [List.getElem?_map] at hi
 obtain ⟨x, hx, rfl⟩ := Option.map_eq_some_iff.1 hi
 refine ⟨b, 0, rfl, fun j v hj => ?_⟩
 cases j with
 | succ j => cases hj
 | zero =>
  cases hj
  rw [show 0 + i * 1 + 0 = i by omega, hW.cellAt hm]
  exact flI_get hx _
theorem StrIn.sat {w W : World} {J : (Nat -> Prop) -> World -> Prop} {mem : List (Nat × Obj)} {S : Option Addr} {rows : List DW} (h : StrIn w S rows) (hm : SatW w (base w) J mem W) : StrIn W S rows := ⟨h.r.sat hm, fun r hr => (h.k r hr).sat hm, fun r hr => (h.d r hr).sat hm⟩
/-- what the specification's choice finds, as a list -/
theorem rwV_dec {n T : Nat} {S : Option Addr} {rows : List DW} {w : World} (hS : StrIn w S rows) (hok : okS n T rows) (hdl : ∀ r ∈ rows, r.d.length <= 1000) (k : Nat) (l : List Int) :
  ∃ (D : Option Addr) (cd : Nat) (d : List Int) (b : Bool), rwV rows k l = [.slice D d.length cd, .bool b] /\ At w D 1 (d.map inE) /\ toN d = doD (tabW rows) k l /\ (∀ x ∈ d, 0 <= x /\ x < n) /\ d.length <= 1000 := by
 cases hr : rowOf rows k l with
 | none =>
  refine ⟨none, 0, [], false, rwV_none hr, (fun i cs hi => by simp at hi), ?_, (fun x hx => by cases hx), (by simp)⟩
  unfold doD tabW; rw [hr]; rfl
 | some r =>
  obtain ⟨h1, h2, h3⟩ := rowOf_some hr
  obtain ⟨j, hj, e⟩ := List.mem_iff_getElem.1 h1
  have ho := (hok j r (by rw [List.getElem?_eq_getElem hj, e])).o
  refine ⟨r.D, r.cd, r.d, true, rwV_some hr, hS.d r h1, ?_, fun x hx => ?_, hdl r h1⟩
  ·unfold doD tabW; rw [hr]; rfl
  ·obtain ⟨q, hq, e⟩ := List.mem_iff_getElem.1 hx
   obtain ⟨g1, g2, _⟩ := pv_inc ho (by rw [List.getElem?_eq_getElem hq, e] : r.d[q]? = some x)
   exact ⟨g1, g2⟩
end R24
end Go.Proofs

/- slices.Grow and slices.Concat, walked. -/
import Derived.Test.YtdegengehbdelaaGreatDoorSeO
import Derived.Test.YtdegengehbdelaaGreatDoorEng50
set_option maxRecDepth 100000
set_option maxHeartbeats 400000000
set_option linter.unusedSectionVars false
set_option linter.unusedVariables false
set_option linter.unusedSimpArgs false
namespace Go.Proofs
open Go.RowKit Go.Kin Go.Kin.Se Go.Kin.Cl
namespace R41
/-- room handed back in a block of its own -/
def RmQ (w : World) (e : Ending) (w' : World) : Prop := ∃ i : { p : Nat × Nat × List Value // Grow 1 0 [] p.2.1 p.2.2 }, e = .returned (.slice (some ⟨i.1.1, 0, none⟩) 0 i.1.2.1) /\ Below w.heap.size w w' /\ w.heap.size <= i.1.1 /\ w'.heap[i.1.1]? = some (.cells ⟨i.1.2.2⟩ 3 (0, 0))
theorem grow75_zero (w : World) : Calls Tryz.prog 75 ⟨[.slice none 0 0, .int .i64 0]⟩ w fun e w' => e = .returned (.slice none 0 0) /\ Below w.heap.size w w' := by
 refine fEn Tryz.func75 rfl Tryz.ntmps75 rfl rfl (sWn w) ?_
 repeat (first|refine lVa rfl rfl (by first|exact pEv rfl|fail) ?_|refine lNi ?_|refine cRg ?_|refine cSq ?_|refine xTh ?_|refine c_false rfl ?_|refine cSk ?_|fail)
 refine lVa rfl rfl (v_cap rfl rfl) ?_
 repeat (first|refine lVa rfl rfl (by first|exact v_sub rfl rfl (by omega) (by omega)|exact pEv rfl|fail) ?_|refine lNi ?_|refine cRg ?_|refine cSq ?_|refine xTh ?_|refine c_false rfl ?_|refine cSk ?_|refine c_ret ?_|fail)
 exact x_ret rfl rfl (by repeat constructor) rfl (fun W hW => ⟨rfl, hW.below⟩)
theorem grow75_calls (n : Nat) (h0 : 0 < n) (hn : n <= 1000) (w : World) : Calls Tryz.prog 75 ⟨[.slice none 0 0, .int .i64 n]⟩ w (RmQ w) := by
 refine fEn Tryz.func75 rfl Tryz.ntmps75 rfl rfl (sWn w) ?_
 repeat (first|refine lVa rfl rfl (by first|exact pEv rfl|fail) ?_|refine lNi ?_|refine cRg ?_|refine cSq ?_|refine xTh ?_|refine c_false rfl ?_|refine cSk ?_|fail)
 refine lVa rfl rfl (v_cap rfl rfl) ?_
 repeat (first|refine lVa rfl rfl (by first|exact v_sub rfl rfl (by omega) (by omega)|exact pEv rfl|fail) ?_|refine lNi ?_|refine cRg ?_|refine cSq ?_|refine xTh ?_|refine c_dec_t rfl (by first|omega|fail) ?_|fail)
 refine lVa rfl rfl (v_cap rfl rfl) ?_
 refine lVa rfl rfl (v_sliceH (h := 0) rfl rfl rfl rfl rfl (by omega)) ?_
 repeat (first|refine lVa rfl rfl (by first|exact pEv rfl|fail) ?_|fail)
 refine r_appendMake (n := n) rfl rfl rfl (by first|rfl|exact congrArg (fun x => some (Value.int .i64 x)) (by omega)) rfl rfl rfl rfl rfl h0 (by omega) (by unfold maxLen; omega) (fun b cap rest hg hc => ?_)
 repeat (first|refine lVa rfl rfl (by first|exact pEv rfl|fail) ?_|fail)
 refine lVa rfl rfl (v_sliceH (h := 0) rfl rfl rfl rfl rfl (by omega)) ?_
 repeat (first|refine lVa rfl rfl (by first|exact pEv rfl|fail) ?_|refine lNi ?_|refine cRg ?_|refine cSq ?_|refine xTh ?_|refine c_ret ?_|fail)
 refine x_ret rfl rfl (by repeat constructor) rfl (fun W hW => ?_)
 have h := hW.own (b, _) (by repeat constructor)
 exact ⟨⟨(b, cap, rest), hg⟩, rfl, hW.below, Nat.le_of_not_lt h.1, h.2⟩
/-- a list handed back in a block of its own -/
def NwI (l : List Nat) : Type := { p : Nat × Nat × List Value // Grow 1 l.length ((l.map nE).flatten) p.2.1 p.2.2 }
def NwQ (l : List Nat) (w : World) (e : Ending) (w' : World) : Prop := ∃ i : NwI l, e = .returned (.slice (some ⟨i.1.1, 0, none⟩) l.length i.1.2.1) /\ Below w.heap.size w w' /\ w.heap.size <= i.1.1 /\ w'.heap[i.1.1]? = some (.cells ⟨(l.map nE).flatten ++ i.1.2.2⟩ 3 (0, 0))
theorem nE_oneX {l : List Nat} : allOne ((l.map nE).flatten) = true := by
 induction l with
 | nil => rfl
 | cons x l ih => rw [List.map_cons, List.flatten_cons]; exact ih
theorem concat49_nil (A X Y : Option Addr) (ca cx cy : Nat) (w : World) (hA : At w A 1 [[.slice X 0 cx], [.slice Y 0 cy]]) : Calls Tryz.prog 49 ⟨[.slice A 2 ca]⟩ w fun e w' => e = .returned (.slice none 0 0) /\ Below w.heap.size w w' := by
 obtain ⟨ba, oa, rfl, hc0⟩ := hA 0 [.slice X 0 cx] rfl
 obtain ⟨_, _, e1, hc1⟩ := hA 1 [.slice Y 0 cy] rfl
 cases e1
 have x0 := ext_of hc0
 have x1 := ext_of hc1
 simp only [Nat.zero_mul, Nat.one_mul, Nat.add_zero] at x0 x1
 refine fEn Tryz.func49 rfl Tryz.ntmps49 rfl rfl (sWn w) ?_
 repeat (first|refine lVa rfl rfl (by first|exact pEv rfl|fail) ?_|refine lNi ?_|refine cRg ?_|refine cSq ?_|refine xTh ?_|refine cBl ?_|fail)
 refine c_loop (ι := Nat) (fun i => i <= 2) (fun i => [(0, .slice (some ⟨ba, oa, none⟩) 2 ca), (3, .int .i64 0), (9, .slice (some ⟨ba, oa, none⟩) 2 ca), (10, .int .i64 2), (11, .int .i64 i)]) (fun _ => []) (fun i => 2 - i) 0 (by omega) (by repeat (first|exact .nil|refine .cons rfl (by first|rfl|(congr 1; done)|exact congrArg _ (by omega)|(simp; done)) ?_)) (by repeat (first|exact .nil|refine .keep (by first|rfl|assumption) ?_|refine .drop ?_|exact MSub.refl _)) ?_
 intro i hi
 have hz : ((0 : Nat) : Int) = 0 := rfl
 obtain rfl | rfl | rfl : i = 0 ∨ i = 1 ∨ i = 2 := by omega
 ·repeat (first|refine lVa rfl rfl (by first|exact v_add rfl rfl (by omega) (by omega)|exact pEv rfl|exact vL0 rfl (by assumption) rfl (by rfl)|exact v_index rfl rfl rfl rfl (by omega) (by omega) (by with_reducible first|exact idx2 _ _|fail)|fail) ?_|refine lNi ?_|refine cRg ?_|refine cSq ?_|refine xTh ?_|refine c_true rfl ?_|refine c_false rfl ?_|refine cBl ?_|refine cSk ?_|refine x_block ?_|fail)
  exact x_back 1 (by omega) (by omega) (by repeat (first|exact .nil|refine .cons rfl (by first|rfl|(congr 1; done)|exact congrArg _ (by omega)|(simp; done)) ?_)) (by repeat (first|exact .nil|refine .keep (by first|rfl|assumption) ?_|refine .drop ?_|exact MSub.refl _))
 ·repeat (first|refine lVa rfl rfl (by first|exact v_add rfl rfl (by omega) (by omega)|exact pEv rfl|exact vL0 rfl (by assumption) rfl (by rfl)|exact v_index rfl rfl rfl rfl (by omega) (by omega) (by with_reducible first|exact idx2 _ _|fail)|fail) ?_|refine lNi ?_|refine cRg ?_|refine cSq ?_|refine xTh ?_|refine c_true rfl ?_|refine c_false rfl ?_|refine cBl ?_|refine cSk ?_|refine x_block ?_|fail)
  exact x_back 2 (by omega) (by omega) (by repeat (first|exact .nil|refine .cons rfl (by first|rfl|(congr 1; done)|exact congrArg _ (by omega)|(simp; done)) ?_)) (by repeat (first|exact .nil|refine .keep (by first|rfl|assumption) ?_|refine .drop ?_|exact MSub.refl _))
 ·repeat (first|refine lVa rfl rfl (by first|exact pEv rfl|fail) ?_|refine lNi ?_|refine cRg ?_|refine cSq ?_|refine xTh ?_|refine c_false rfl ?_|refine c_exit ?_|refine xTe ?_|refine xBs ?_|fail)
  refine r_call rfl rfl rfl (fun W _ => grow75_zero W) ?_
  repeat (first|refine lVa rfl rfl (by first|exact pEv rfl|fail) ?_|refine lNi ?_|refine cRg ?_|refine cSq ?_|refine xTh ?_|refine cBl ?_|fail)
  refine c_loop (ι := Nat) (fun i => i <= 2) (fun i => [(6, .slice none 0 0), (25, .slice (some ⟨ba, oa, none⟩) 2 ca), (26, .int .i64 2), (27, .int .i64 i)]) (fun _ => []) (fun i => 2 - i) 0 (by omega) (by repeat (first|exact .nil|refine .cons rfl (by first|rfl|(congr 1; done)|exact congrArg _ (by omega)|(simp; done)) ?_)) (by repeat (first|exact .nil|refine .keep (by first|rfl|assumption) ?_|refine .drop ?_|exact MSub.refl _)) ?_
  intro i hi
  obtain rfl | rfl | rfl : i = 0 ∨ i = 1 ∨ i = 2 := by omega
  ·repeat (first|refine lVa rfl rfl (by first|exact pEv rfl|exact vL0 rfl (by assumption) rfl (by rfl)|exact v_index rfl rfl rfl rfl (by omega) (by omega) (by with_reducible first|exact idx2 _ _|fail)|fail) ?_|refine lNi ?_|refine cRg ?_|refine cSq ?_|refine xTh ?_|refine c_true rfl ?_|refine cBl ?_|refine cSk ?_|fail)
   refine lVa rfl rfl (v_append0 rfl rfl rfl rfl (Nat.le_refl _)) ?_
   repeat (first|refine lVa rfl rfl (by first|exact v_add rfl rfl (by omega) (by omega)|exact pEv rfl|fail) ?_|refine lNi ?_|refine cRg ?_|refine xTh ?_|refine x_block ?_|fail)
   exact x_back 1 (by omega) (by omega) (by repeat (first|exact .nil|refine .cons rfl (by first|rfl|(congr 1; done)|exact congrArg _ (by omega)|(simp; done)) ?_)) (by repeat (first|exact .nil|refine .keep (by first|rfl|assumption) ?_|refine .drop ?_|exact MSub.refl _))
  ·repeat (first|refine lVa rfl rfl (by first|exact pEv rfl|exact vL0 rfl (by assumption) rfl (by rfl)|exact v_index rfl rfl rfl rfl (by omega) (by omega) (by with_reducible first|exact idx2 _ _|fail)|fail) ?_|refine lNi ?_|refine cRg ?_|refine cSq ?_|refine xTh ?_|refine c_true rfl ?_|refine cBl ?_|refine cSk ?_|fail)
   refine lVa rfl rfl (v_append0 rfl rfl rfl rfl (Nat.le_refl _)) ?_
   repeat (first|refine lVa rfl rfl (by first|exact v_add rfl rfl (by omega) (by omega)|exact pEv rfl|fail) ?_|refine lNi ?_|refine cRg ?_|refine xTh ?_|refine x_block ?_|fail)
   exact x_back 2 (by omega) (by omega) (by repeat (first|exact .nil|refine .cons rfl (by first|rfl|(congr 1; done)|exact congrArg _ (by omega)|(simp; done)) ?_)) (by repeat (first|exact .nil|refine .keep (by first|rfl|assumption) ?_|refine .drop ?_|exact MSub.refl _))
  ·repeat (first|refine lVa rfl rfl (by first|exact pEv rfl|fail) ?_|refine lNi ?_|refine cRg ?_|refine cSq ?_|refine xTh ?_|refine c_false rfl ?_|refine c_ret ?_|refine c_exit ?_|refine xTe ?_|refine xBs ?_|fail)
   exact x_ret rfl rfl (by repeat constructor) rfl (fun W hW => ⟨rfl, hW.below⟩)
theorem nE_len (l : List Nat) : ((l.map nE).flatten).length = l.length * 1 := by rw [flN_eq, flN_len, Nat.mul_one]
theorem nE_get {l : List Nat} {j : Nat} {v : Value} (h : ((l.map nE).flatten)[j]? = some v) : ∃ x, l[j]? = some x /\ v = .int .i64 (x : Int) := by
 rw [flN_eq] at h
 unfold flN at h
 rw [List.getElem?_map] at h
 obtain ⟨x, h1, h2⟩ := Option.map_eq_some_iff.1 h
 exact ⟨x, h1, h2.symm⟩
theorem newsG_nE {c : Cx} {mem : List (Nat × Obj)} {A : Option Addr} {l : List Nat} (h : ∀ W, SatW c.w0 c.D c.J mem W -> At W A 1 (l.map nE)) (hs : l ≠ [] -> ∃ b o, A = some ⟨b, o, none⟩) : NewsG c mem A l.length ((l.map nE).flatten) := by
 by_cases hl : l = []
 ·subst hl; exact .inl ⟨rfl, rfl⟩
 obtain ⟨b, o, rfl⟩ := hs hl
 refine .inr ⟨b, o, rfl, ⟨fun W hW j v hj => ?_⟩⟩
 obtain ⟨x, hx, rfl⟩ := nE_get hj
 obtain ⟨b', o', e, hc⟩ := h W hW j (nE x) (by rw [List.getElem?_map, hx]; rfl)
 cases e
 have h2 := hc 0 (.int .i64 (x : Int)) rfl
 rwa [Nat.mul_one, Nat.add_zero] at h2
theorem at_some {w : World} {A : Option Addr} {l : List Nat} (h : At w A 1 (l.map nE)) (hl : l ≠ []) : ∃ b o, A = some ⟨b, o, none⟩ := by
 cases l with
 | nil => exact absurd rfl hl
 | cons x l =>
  obtain ⟨b, o, e, _⟩ := h 0 (nE x) rfl
  exact ⟨b, o, e⟩
theorem concat49_calls (A X Y : Option Addr) (ca cx cy : Nat) (x y : List Nat) (w : World) (hA : At w A 1 [[.slice X x.length cx], [.slice Y y.length cy]]) (hX : At w X 1 (x.map nE)) (hY : At w Y 1 (y.map nE)) (h0 : 0 < x.length + y.length) (hxl : x.length <= 100) (hyl : y.length <= 100) :
  Calls Tryz.prog 49 ⟨[.slice A 2 ca]⟩ w (NwQ (x ++ y) w) := by
 obtain ⟨ba, oa, rfl, hc0⟩ := hA 0 [.slice X x.length cx] rfl
 obtain ⟨_, _, e1, hc1⟩ := hA 1 [.slice Y y.length cy] rfl
 cases e1
 have x0 := ext_of hc0
 have x1 := ext_of hc1
 simp only [Nat.zero_mul, Nat.one_mul, Nat.add_zero] at x0 x1
 refine fEn Tryz.func49 rfl Tryz.ntmps49 rfl rfl (sWn w) ?_
 repeat (first|refine lVa rfl rfl (by first|exact pEv rfl|fail) ?_|refine lNi ?_|refine cRg ?_|refine cSq ?_|refine xTh ?_|refine cBl ?_|fail)
 refine c_loop (ι := Nat × Nat) (fun p => p.1 <= 2 /\ (p.1 = 0 -> p.2 = 0) /\ (p.1 = 1 -> p.2 = x.length) /\ (p.1 = 2 -> p.2 = x.length + y.length)) (fun p => [(0, .slice (some ⟨ba, oa, none⟩) 2 ca), (3, .int .i64 p.2), (9, .slice (some ⟨ba, oa, none⟩) 2 ca), (10, .int .i64 2), (11, .int .i64 p.1)]) (fun _ => []) (fun p => 2 - p.1) (0, 0) (by simp) (by repeat (first|exact .nil|refine .cons rfl (by first|rfl|(congr 1; done)|exact congrArg _ (by omega)|(simp; done)) ?_)) (by repeat (first|exact .nil|refine .keep (by first|rfl|assumption) ?_|refine .drop ?_|exact MSub.refl _)) ?_
 rintro ⟨i, s⟩ ⟨hi, hs0, hs1, hs2⟩
 simp only at hi hs0 hs1 hs2 ⊢
 obtain rfl | rfl | rfl : i = 0 ∨ i = 1 ∨ i = 2 := by omega
 ·obtain rfl := hs0 rfl
  clear hs0 hs1 hs2
  repeat (first|refine lVa rfl rfl (by first|exact v_add rfl rfl (by omega) (by omega)|exact pEv rfl|exact vL0 rfl (by assumption) rfl (by rfl)|exact v_index rfl rfl rfl rfl (by omega) (by omega) (by with_reducible first|exact idx2 _ _|fail)|fail) ?_|refine lNi ?_|refine cRg ?_|refine cSq ?_|refine xTh ?_|refine c_true rfl ?_|refine c_false rfl ?_|refine cBl ?_|refine cSk ?_|refine x_block ?_|fail)
  exact x_back (1, x.length) (by simp) (by simp only; omega) (by repeat (first|exact .nil|refine .cons rfl (by first|rfl|(congr 1; done)|exact congrArg _ (by omega)|(simp; done)) ?_)) (by repeat (first|exact .nil|refine .keep (by first|rfl|assumption) ?_|refine .drop ?_|exact MSub.refl _))
 ·obtain rfl := hs1 rfl
  clear hs0 hs1 hs2
  repeat (first|refine lVa rfl rfl (by first|exact v_add rfl rfl (by omega) (by omega)|exact pEv rfl|exact vL0 rfl (by assumption) rfl (by rfl)|exact v_index rfl rfl rfl rfl (by omega) (by omega) (by with_reducible first|exact idx2 _ _|fail)|fail) ?_|refine lNi ?_|refine cRg ?_|refine cSq ?_|refine xTh ?_|refine c_true rfl ?_|refine c_false rfl ?_|refine cBl ?_|refine cSk ?_|refine x_block ?_|fail)
  exact x_back (2, x.length + y.length) (by simp) (by simp only; omega) (by repeat (first|exact .nil|refine .cons rfl (by first|rfl|(congr 1; done)|exact congrArg _ (by omega)|(simp; done)) ?_)) (by repeat (first|exact .nil|refine .keep (by first|rfl|assumption) ?_|refine .drop ?_|exact MSub.refl _))
 ·obtain rfl := hs2 rfl
  clear hs0 hs1 hs2
  repeat (first|refine lVa rfl rfl (by first|exact pEv rfl|fail) ?_|refine lNi ?_|refine cRg ?_|refine cSq ?_|refine xTh ?_|refine c_false rfl ?_|refine c_exit ?_|refine xTe ?_|refine xBs ?_|fail)
  refine r_call1 (ι := { p : Nat × Nat × List Value // Grow 1 0 [] p.2.1 p.2.2 }) (v := fun i => .slice (some ⟨i.1.1, 0, none⟩) 0 i.1.2.1) (bk := fun i => i.1.1) (o := fun i => .cells ⟨i.1.2.2⟩ 3 (0, 0)) rfl rfl rfl (fun W _ => grow75_calls (x.length + y.length) h0 (by omega) W) ?_
  rintro ⟨⟨b, cap, rest⟩, hg⟩
  simp only at hg ⊢
  repeat (first|refine lVa rfl rfl (by first|exact pEv rfl|fail) ?_|refine lNi ?_|refine cRg ?_|refine cSq ?_|refine xTh ?_|refine cBl ?_|fail)
  refine c_loop (ι := Nat × Nat × Nat × List Value × List Nat) (fun p => p.1 <= 2 /\ p.2.2.2.2 = (if p.1 = 0 then [] else if p.1 = 1 then x else x ++ y) /\ Grow 1 p.2.2.2.2.length ((p.2.2.2.2.map nE).flatten) p.2.2.1 p.2.2.2.1) (fun p => [(6, .slice (some ⟨p.2.1, 0, none⟩) p.2.2.2.2.length p.2.2.1), (25, .slice (some ⟨ba, oa, none⟩) 2 ca), (26, .int .i64 2), (27, .int .i64 p.1)]) (fun p => [(p.2.1, .cells ⟨(p.2.2.2.2.map nE).flatten ++ p.2.2.2.1⟩ 3 (0, 0))]) (fun p => 2 - p.1) (0, b, cap, rest, []) ⟨by omega, rfl, hg⟩ (by repeat (first|exact .nil|refine .cons rfl (by first|rfl|(congr 1; done)|exact congrArg _ (by omega)|(simp; done)) ?_)) (by repeat (first|exact .nil|refine .keep (by first|rfl|assumption) ?_|refine .drop ?_|exact MSub.refl _)) ?_
  rintro ⟨i, b, cap, rest, l⟩ ⟨hi, hl, hg⟩
  simp only at hi hl hg ⊢
  obtain rfl | rfl | rfl : i = 0 ∨ i = 1 ∨ i = 2 := by omega
  ·obtain rfl : l = [] := hl
   repeat (first|refine lVa rfl rfl (by first|exact pEv rfl|exact vL0 rfl (by assumption) rfl (by rfl)|exact v_index rfl rfl rfl rfl (by omega) (by omega) (by with_reducible first|exact idx2 _ _|fail)|fail) ?_|refine lNi ?_|refine cRg ?_|refine cSq ?_|refine xTh ?_|refine c_true rfl ?_|refine cBl ?_|refine cSk ?_|fail)
   refine r_appendG (xs := ([].map nE).flatten) (ys := (x.map nE).flatten) (m := x.length) rfl rfl rfl rfl rfl rfl (newsG_nE (fun W hW => hX.sat hW) (at_some hX)) Rem.head hg (nE_len x) nE_oneX rfl (by simp only [List.length_nil]; omega) (by unfold maxLen; simp only [List.length_nil]; omega) (fun b' c' r' hg' => ?_)
   have e : ([] : List Nat).length + x.length = x.length := by simp
   rw [e] at hg' ⊢
   repeat (first|refine lVa rfl rfl (by first|exact v_add rfl rfl (by omega) (by omega)|exact pEv rfl|fail) ?_|refine lNi ?_|refine cRg ?_|refine xTh ?_|refine x_block ?_|fail)
   exact x_back (1, b', c', r', x) ⟨by omega, rfl, hg'⟩ (by simp only; omega) (by repeat (first|exact .nil|refine .cons rfl (by first|rfl|(congr 1; done)|exact congrArg _ (by omega)|(simp; done)) ?_)) (by repeat (first|exact .nil|refine .keep (by first|rfl|assumption) ?_|refine .drop ?_|exact MSub.refl _))
  ·obtain rfl : l = x := hl
   repeat (first|refine lVa rfl rfl (by first|exact pEv rfl|exact vL0 rfl (by assumption) rfl (by rfl)|exact v_index rfl rfl rfl rfl (by omega) (by omega) (by with_reducible first|exact idx2 _ _|fail)|fail) ?_|refine lNi ?_|refine cRg ?_|refine cSq ?_|refine xTh ?_|refine c_true rfl ?_|refine cBl ?_|refine cSk ?_|fail)
   refine r_appendG (xs := (l.map nE).flatten) (ys := (y.map nE).flatten) (m := y.length) rfl rfl rfl rfl rfl rfl (newsG_nE (fun W hW => hY.sat hW) (at_some hY)) Rem.head hg (nE_len y) nE_oneX rfl (by omega) (by unfold maxLen; omega) (fun b' c' r' hg' => ?_)
   have e : (l.map nE).flatten ++ (y.map nE).flatten = ((l ++ y).map nE).flatten := by rw [List.map_append, List.flatten_append]
   have e2 : l.length + y.length = (l ++ y).length := by rw [List.length_append]
   rw [e, e2] at hg'
   rw [e, e2]
   have hgh := fun (_ : Unit) => hg'
   clear hg' e e2
   repeat (first|refine lVa rfl rfl (by first|exact v_add rfl rfl (by omega) (by omega)|exact pEv rfl|fail) ?_|refine lNi ?_|refine cRg ?_|refine xTh ?_|refine x_block ?_|fail)
   exact x_back (2, b', c', r', l ++ y) ⟨by omega, rfl, hgh ()⟩ (by simp only; omega) (by repeat (first|exact .nil|refine .cons rfl (by first|rfl|(congr 1; done)|exact congrArg _ (by omega)|(simp; done)) ?_)) (by repeat (first|exact .nil|refine .keep (by first|rfl|assumption) ?_|refine .drop ?_|exact MSub.refl _))
  ·obtain rfl : l = x ++ y := hl
   repeat (first|refine lVa rfl rfl (by first|exact pEv rfl|fail) ?_|refine lNi ?_|refine cRg ?_|refine cSq ?_|refine xTh ?_|refine c_false rfl ?_|refine c_ret ?_|refine c_exit ?_|refine xTe ?_|refine xBs ?_|fail)
   refine x_ret rfl rfl (by repeat constructor) rfl (fun W hW => ?_)
   have h := hW.own (b, _) (by repeat constructor)
   exact ⟨⟨(b, cap, rest), hg⟩, rfl, hW.below, Nat.le_of_not_lt h.1, h.2⟩
end R41
end Go.Proofs

namespace Go.Kin.Se
open Go.Proofs.R41
/-- how many are in a set -/
def pc (s : Nat) : Nat := (s % 2) + (s / 2 % 2) + (s / 4 % 2) + (s / 8 % 2)
theorem pc_single : ∀ s, s < 16 -> 0 < s -> singleB s = true -> pc s = 1 := by decide +kernel
theorem pc_le : ∀ s, s < 16 -> pc s <= 4 := by decide +kernel
theorem sub_facts' : ∀ s, s < 16 -> ∀ a, a < 16 -> (0 < a /\ a < s /\ a &&& s = a -> wo s a < s /\ 0 < wo s a /\ pc a + pc (wo s a) = pc s) := by decide +kernel
theorem sub_facts (s : Nat) (hs : s < 16) (a : Nat) (ha : a < 16) (h0 : 0 < a) (h1 : a < s) (h2 : a &&& s = a) : wo s a < s /\ 0 < wo s a /\ pc a + pc (wo s a) = pc s := sub_facts' s hs a ha ⟨h0, h1, h2⟩
theorem subL_mem {s a : Nat} : ∀ {g b : Nat}, b &&& s = b -> a ∈ subL s g b -> 0 < a /\ a <= b /\ a &&& s = a
 | 0, _, _, h => by cases h
 | g + 1, b, hb, h => by
  unfold subL at h
  by_cases h0 : b = 0
  ·rw [if_pos h0] at h; cases h
  rw [if_neg h0] at h
  rcases List.mem_append.1 h with h | h
  ·split at h
   ·rw [List.mem_singleton.1 h]; exact ⟨by omega, Nat.le_refl _, hb⟩
   ·cases h
  ·obtain ⟨h1, h2, h3⟩ := subL_mem (s := s) (b := (b - 1) &&& s) (by rw [Nat.and_assoc, Nat.and_self]) h
   have : (b - 1) &&& s <= b - 1 := Nat.and_le_left
   exact ⟨h1, by omega, h3⟩
theorem trL_len : ∀ f s, 0 < s -> s < 16 -> s <= f -> ∀ x ∈ trL f s, x.length + 1 = pc s
 | 0, s, h0, _, hf, _, _ => by omega
 | f + 1, s, h0, h1, hf, x, hx => by
  unfold trL at hx
  cases hs : singleB s with
  | true =>
   rw [hs, if_pos rfl] at hx
   rw [List.mem_singleton.1 hx, pc_single s h1 h0 hs]; rfl
  | false =>
   rw [hs, if_neg (by decide)] at hx
   obtain ⟨a, ha, hx⟩ := List.mem_flatMap.1 hx
   obtain ⟨u, hu, hx⟩ := List.mem_flatMap.1 hx
   obtain ⟨v, hv, rfl⟩ := List.mem_map.1 hx
   have hle : (s - 1) &&& s <= s - 1 := Nat.and_le_left
   obtain ⟨a1, a2, a3⟩ := subL_mem (b := (s - 1) &&& s) (by rw [Nat.and_assoc, Nat.and_self]) ha
   obtain ⟨b1, b2, b3⟩ := sub_facts s h1 a (by omega) a1 (by omega) a3
   have h3 := trL_len f a a1 (by omega) (by omega) u hu
   have h4 := trL_len f (wo s a) b2 (by omega) (by omega) v hv
   rw [isrt_len, List.length_append, List.length_append, List.length_singleton]; omega
theorem trL_full : ∀ n, n < 5 -> 0 < n -> trL 15 (full n) = trees n := by decide +kernel
end Go.Kin.Se
namespace Go.Proofs
open Go.RowKit Go.Kin Go.Kin.Se Go.Kin.Cl
namespace R41
theorem gSl_one {α : Type} {l : List α} {b cap : Nat} : allOne [gSl l b cap] = true := by cases l <;> rfl
theorem gSl_cells {α : Type} {l : List α} {b cap : Nat} : cellsL (gSl l b cap) = [gSl l b cap] := by cases l <;> rfl
theorem gSl_ne {α : Type} {l : List α} {b cap : Nat} (h : l ≠ []) : gSl l b cap = .slice (some ⟨b, 0, none⟩) l.length cap := by cases l with | nil => exact absurd rfl h | cons x l => rfl
theorem gM_ne {α : Type} {f : α -> List Value} {T : TypeId} {l : List α} {b : Nat} {rest : List Value} (h : l ≠ []) : gM f T l b rest = [(b, .cells ⟨(l.map f).flatten ++ rest⟩ T (0, 0))] := by cases l with | nil => exact absurd rfl h | cons x l => rfl
theorem at_gM {α : Type} {w0 W : World} {D : Nat -> Prop} {J : (Nat -> Prop) -> World -> Prop} {mem : List (Nat × Obj)} {f : α -> List Value} {T : TypeId} {sz : Nat} {l : List α} {b cap : Nat} {rest : List Value} (hW : SatW w0 D J mem W) (h : ∀ p ∈ gM f T l b rest, p ∈ mem)
  (hsz : ∀ x, (f x).length = sz) : ∃ A c, gSl l b cap = .slice A l.length c /\ At W A sz (l.map f) := by
 cases l with
 | nil => exact ⟨none, 0, rfl, fun i cs hi => by simp at hi⟩
 | cons x l =>
  refine ⟨_, _, rfl, ?_⟩
  have hm := h _ List.mem_cons_self
  exact hW.rows (b := b) (rest := rest) hm rfl (fun r hr => by obtain ⟨y, _, rfl⟩ := List.mem_map.1 hr; exact hsz y)
/-- how a list is handed over -/
def HdT (l : List Nat) (vs : List Value) (ms : List (Nat × Obj)) : Prop := ∃ b cap rest, gOK nE 1 l cap rest /\ vs = [gSl l b cap] /\ ms = gM nE 3 l b rest
theorem trees22_calls (s : Nat) (w : World) : Calls Tryz.prog 22 ⟨[.int .i64 s]⟩ w fun e w' => ∃ b : Nat, e = .returned (.func (.func 47) ⟨[]⟩ ⟨[.pointer (some ⟨b, 0, none⟩)]⟩) /\ Below w.heap.size w w' /\ w.heap.size <= b /\ w'.heap[b]? = some (.cells ⟨[.int .i64 s]⟩ 3 (0, 0)) := by
 refine fEn Tryz.func22 rfl Tryz.ntmps22 rfl rfl (sWn w) ?_
 repeat (first|refine lVa rfl rfl (by first|exact pEv rfl|fail) ?_|refine lNi ?_|refine cRg ?_|refine cSq ?_|refine xTh ?_|refine r_box rfl rfl rfl rfl (fun _ => ?_)|refine c_ret ?_|fail)
 rename_i b
 refine x_ret rfl rfl (by repeat constructor) rfl (fun W hW => ?_)
 have h := hW.own (b, _) (by repeat constructor)
 exact ⟨b, rfl, hW.below, Nat.le_of_not_lt h.1, h.2⟩
end R41
end Go.Proofs

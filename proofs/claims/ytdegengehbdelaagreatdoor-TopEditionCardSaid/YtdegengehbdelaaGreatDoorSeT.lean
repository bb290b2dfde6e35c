/- Stemmata: the trees of a set are handed over one by one, walked. -/
import Derived.Test.YtdegengehbdelaaGreatDoorSeR
set_option maxRecDepth 100000
set_option maxHeartbeats 400000000
set_option linter.unusedSectionVars false
set_option linter.unusedVariables false
set_option linter.unusedSimpArgs false
namespace Go.Proofs
open Go.RowKit Go.Kin Go.Kin.Se Go.Kin.Cl
namespace R41
/-- a state of the loop over the parts of a set -/
structure TS where
 a : Nat
 g : Nat
 k : Nat
 b : Nat
 Ds : List Nat
/-- the trees of a set at one of its parts -/
def trA (f s a : Nat) : List (List Nat) := (trL f a).flatMap fun x => (trL f (wo s a)).map fun y => isrt ((x ++ y) ++ [s])
theorem trL_eq {f s : Nat} (hs : singleB s = false) : trL (f + 1) s = (subL s s ((s - 1) &&& s)).flatMap (trA f s) := by
 unfold trL
 rw [hs, if_neg (by decide)]; rfl
theorem trA_len {f s a : Nat} : (trA f s a).length = (trL f a).length * (trL f (wo s a)).length := by
 unfold trA
 induction trL f a with
 | nil => simp
 | cons x l ih => rw [List.flatMap_cons, List.length_append, ih, List.length_map, List.length_cons, Nat.add_mul]; omega
theorem trA_at {f s a i j : Nat} {x y : List Nat} (hx : (trL f a)[i]? = some x) (hy : (trL f (wo s a))[j]? = some y) : (trA f s a)[i * (trL f (wo s a)).length + j]? = some (isrt ((x ++ y) ++ [s])) := by
 unfold trA
 have hj := (List.getElem?_eq_some_iff.1 hy).1
 generalize trL f a = l at hx
 induction l generalizing i with
 | nil => simp at hx
 | cons z l ih =>
  rw [List.flatMap_cons]
  cases i with
  | zero =>
   cases hx
   rw [Nat.zero_mul, Nat.zero_add, List.getElem?_append_left (by rw [List.length_map]; exact hj), List.getElem?_map, hy]; rfl
  | succ i =>
   rw [List.getElem?_append_right (by rw [List.length_map, Nat.add_mul]; omega), List.length_map, Nat.add_mul, Nat.one_mul, show i * (trL f (wo s a)).length + (trL f (wo s a)).length + j - (trL f (wo s a)).length = i * (trL f (wo s a)).length + j by omega]
   exact ih hx
theorem yield_mono {F : Fence} {m : Nat} {P : Program} {l : Nat} {args : Array Value} {W : World} {R R' : Ending -> World -> Prop} (h : YieldAt F m P l args W R) (hr : ∀ e w, R e w -> R' e w) : YieldAt F m P l args W R' := by
 obtain ⟨fn, tmps, assign, body, hy, hR⟩ := h
 exact ⟨fn, tmps, assign, body, hy, hR.mono hr⟩
theorem perm3 {α : Type} {a b c : α} {m : List α} : (a :: b :: c :: m).Perm ([c] ++ (a :: b :: m)) := List.perm_middle (l₁ := [a, b])
theorem ext_K {W : World} {D X : Nat -> Prop} {b : Nat} {cs : List Value} {T : TypeId} {fr : Nat × Nat} (h : X b /\ W.heap[b]? = some (.cells ⟨cs⟩ T fr)) : Ext W (fun b => D b ∨ X b) b 0 cs := ⟨.inr h.1, fun i v hi => by
 unfold World.cell?
 simp only [h.2]
 simpa using hi⟩
theorem ar_K {W : World} {D X : Nat -> Prop} {l : List Nat} {b cap : Nat} {rest : List Value} (h : ∀ p ∈ gM nE 3 l b rest, X p.1 /\ W.heap[p.1]? = some p.2) : ∃ A c, gSl l b cap = .slice A l.length c /\ Ar W (fun b => D b ∨ X b) A 1 (l.map nE) := by
 by_cases hl : l = []
 ·subst hl; exact ⟨none, 0, rfl, Ar.nil⟩
 refine ⟨_, _, gSl_ne hl, fun i r hr => ⟨b, 0, rfl, ?_⟩⟩
 rw [gM_ne hl] at h
 have hE := ext_K (D := D) (h _ List.mem_cons_self)
 rw [List.getElem?_map] at hr
 obtain ⟨x, hx, rfl⟩ := Option.map_eq_some_iff.1 hr
 have hg : ((l.map nE).flatten ++ rest)[i]? = some (.int .i64 (x : Int)) := by rw [flN_eq]; exact flN_get hx rest
 have h2 := Ext.at hE hg
 rw [Nat.mul_one]
 exact h2
theorem ar_begin {w W : World} {D : Nat -> Prop} {l0 : Nat} {A : Option Addr} {l : List Nat} (h : Ar w D A 1 (l.map nE)) (hl : ∃ r, w.heap[l0]? = some (.loop r)) (hs : Same (fun b => D b /\ b ≠ l0) w W) : Ar W D A 1 (l.map nE) := fun i r hr => by
 obtain ⟨b, o, e, g⟩ := h i r hr
 rw [List.getElem?_map] at hr
 obtain ⟨x, hx, rfl⟩ := Option.map_eq_some_iff.1 hr
 exact ⟨b, o, e, g.begin hl hs⟩
theorem trees47_it : ∀ f s : Nat, 0 < s -> s < 16 -> s <= f -> ∀ (bs : Nat) (W : World), W.heap[bs]? = some (.cells ⟨[.int .i64 s]⟩ 3 (0, 0)) ->
  ItT Tryz.prog 47 [.pointer (some ⟨bs, 0, none⟩)] HdT (trL f s) (fun b => b = bs) W
 | 0, s, h0, _, hf, _, _, _ => by omega
 | f + 1, s, h0, h16, hf, bs, W, hbs => by
  intro lp J cJ hy hj0
  have hs : SatW W (fun b => b = bs) (J 0) [] W := ⟨Same.refl _ _, fun b hb => by subst hb; exact lt_of_heap hbs, List.nodup_nil, fun p hp => (by cases hp), cJ 0, cJ 0 _ _ _ _ hj0 (Same.refl _ _) fun b hb => (by cases hb)⟩
  have hE : Ext W (fun b => b = bs) bs 0 [.int .i64 (s : Int)] := ⟨rfl, fun i v hi => by
   unfold World.cell?
   simp only [hbs]
   simpa using hi⟩
  refine fEn Tryz.func47 rfl Tryz.ntmps47 rfl rfl hs ?_
  repeat (first|refine lVa rfl rfl (by first|exact vL0 rfl (by assumption) rfl (by rfl)|fail) ?_|refine lNi ?_|refine cRg ?_|refine cSq ?_|refine xTh ?_|refine r_box rfl rfl rfl rfl (fun _ => ?_)|fail)
  rename_i b2
  refine r_call rfl rfl rfl (fun W hW => single_calls s W (by omega)) ?_
  cases hsg : singleB s with
  | true =>
   have hT : trL (f + 1) s = [[]] := by unfold trL; rw [hsg, if_pos rfl]
   rw [hT] at hy ⊢
   repeat (first|refine lVa rfl rfl (by first|exact vLd rfl (by repeat constructor) rfl (by rfl)|fail) ?_|refine lNi ?_|refine cRg ?_|refine cSq ?_|refine xTh ?_|refine c_true rfl ?_|fail)
   refine l_yieldT (ms := []) rfl rfl rfl rfl (.refl _) (cJ 1) (fun S A h1 h2 h3 h4 h5 h6 h7 h8 => ?_) ?_
   ·have := hy 0 (by decide) S A [.slice none 0 0] [] ⟨0, 0, [], fun h => absurd rfl h, rfl, rfl⟩ h1 h2 h6 h7 h8
    exact this
   repeat (first|refine lNi ?_|refine xTh ?_|refine c_ret ?_|refine xTr ?_|fail)
   exact x_ret rfl rfl Res.nil rfl (fun W hW => ⟨⟨_, rfl⟩, _, hW.word⟩)
  | false =>
   have hT := trL_eq (f := f) hsg
   rw [hT] at hy ⊢
   have hsm : bits .and .i64 ((s : Int) - 1) (s : Int) = (((s - 1) &&& s : Nat) : Int) := by rw [sub_one h0]; exact and_small (s - 1) (by omega) s (by omega)
   have hle : (s - 1) &&& s <= s - 1 := Nat.and_le_left
   repeat (first|refine lVa rfl rfl (v_andA rfl rfl hsm) ?_|refine lVa rfl rfl (by first|exact v_sub rfl rfl (by omega) (by omega)|exact vL0 rfl (by assumption) rfl (by rfl)|fail) ?_|refine lNi ?_|refine cRg ?_|refine cSq ?_|refine xTh ?_|refine r_alloc rfl rfl rfl (by first|exact aggL|fail) (fun _ => ?_)|refine rSt rfl rfl rfl rfl rfl rfl rfl (by repeat constructor) (by rfl) ?_|refine c_false rfl ?_|refine cBl ?_|refine cSk ?_|fail)
   rename_i b3
   refine c_loopD (ι := TS) (fun p => p.a <= p.g /\ p.a < s /\ p.a &&& s = p.a /\ ∃ pre, (subL s s ((s - 1) &&& s)).flatMap (trA f s) = pre ++ (subL s p.g p.a).flatMap (trA f s) /\ pre.length = p.k) (fun p => p.Ds.map Kin.mark) (fun p => J p.k)
    (fun p => [(1, .pointer (some ⟨bs, 0, none⟩)), (2, .pointer (some ⟨b2, 0, none⟩)), (3, .pointer (some ⟨p.b, 0, none⟩))])
    (fun p => (p.b, .cells ⟨[.int .i64 p.a]⟩ 3 (0, 0)) :: (p.Ds.map opn ++ [(b2, .cells ⟨[.func (.yield lp) ⟨[]⟩ ⟨[]⟩]⟩ 87 (0, 0))])) (fun p => p.a) ⟨(s - 1) &&& s, s, 0, b3, []⟩ ⟨by simp only; omega, by simp only; omega, by simp only; rw [Nat.and_assoc, Nat.and_self], [], rfl, rfl⟩ rfl rfl (by repeat (first|exact .nil|refine .cons rfl (by first|rfl|(congr 1; done)|exact congrArg _ (by omega)|(simp; done)) ?_)) (by repeat (first|exact .nil|refine .keep (by first|rfl|assumption) ?_|refine .drop ?_|exact MSub.refl _)) ?_
   rintro ⟨a, g, k, b3, Ds⟩ ⟨h1, h2, h3, pre, h4, h5⟩
   simp only at h1 h2 h3 h4 h5 ⊢
   by_cases ha : a = 0
   ·subst ha
    have hk : ((subL s s ((s - 1) &&& s)).flatMap (trA f s)).length = k := by
     rw [h4]
     have : subL s g 0 = [] := by cases g with
      | zero => rfl
      | succ g => exact if_pos rfl
     rw [this]
     simpa using h5
    repeat (first|refine lVa rfl rfl (by first|exact pEv rfl|exact vLd rfl (by repeat constructor) rfl (by rfl)|fail) ?_|refine lNi ?_|refine cRg ?_|refine cSq ?_|refine xTh ?_|refine c_false rfl ?_|refine c_exit ?_|refine xTe ?_|refine xBs ?_|fail)
    refine x_endsJ rfl (.drop (split_app _ _)) rfl Res.nil rfl (fun W hW => ⟨⟨_, rfl⟩, Kin.keys [], ?_⟩)
    rw [hk]
    exact hW.word
   obtain ⟨g, rfl⟩ : ∃ q, g = q + 1 := ⟨g - 1, by omega⟩
   have han : bits .and .i64 (a : Int) (-(a : Int)) = ((lb a : Nat) : Int) := neg_small a (by omega) (by omega)
   have hsn : bits .and .i64 (s : Int) (-(s : Int)) = ((lb s : Nat) : Int) := neg_small s (by omega) h0
   have hwo : bits .andNot .i64 (s : Int) (a : Int) = ((wo s a : Nat) : Int) := andNot_small s (by omega) a (by omega)
   have ham : bits .and .i64 ((a : Int) - 1) (s : Int) = (((a - 1) &&& s : Nat) : Int) := by rw [sub_one (by omega)]; exact and_small (a - 1) (by omega) s (by omega)
   have hal : (a - 1) &&& s <= a - 1 := Nat.and_le_left
   have hst : subL s (g + 1) a = (if lb a = lb s then [a] else []) ++ subL s g ((a - 1) &&& s) := if_neg ha
   have has : ((a - 1) &&& s) &&& s = (a - 1) &&& s := by rw [Nat.and_assoc, Nat.and_self]
   by_cases hlb : lb a = lb s
   rotate_left
   ·rw [hst, if_neg hlb, List.nil_append] at h4
    have H4 := fun (_ : Unit) => h4
    clear h4
    repeat (first|refine lVa rfl rfl (v_andA rfl rfl han) ?_|refine lVa rfl rfl (v_andA rfl rfl hsn) ?_|refine lVa rfl rfl (v_andA rfl rfl ham) ?_|refine lVa rfl rfl (by first|exact v_sub rfl rfl (by omega) (by omega)|exact v_neg rfl (by omega) (by omega)|exact pEv rfl|exact vLd rfl (by repeat constructor) rfl (by rfl)|exact vL0 rfl (by assumption) rfl (by rfl)|fail) ?_|refine lNi ?_|refine cRg ?_|refine cSq ?_|refine xTh ?_|refine r_alloc rfl rfl rfl (by first|exact aggL|fail) (fun _ => ?_)|refine rSt rfl rfl rfl rfl rfl rfl rfl (by repeat constructor) (by rfl) ?_|refine c_dec_t rfl (by first|omega|fail) ?_|refine cBl ?_|refine cSk ?_|refine c_exit ?_|refine xTe ?_|refine xBs ?_|fail)
    rename_i b4
    exact x_backD ⟨(a - 1) &&& s, g, k, b4, Ds⟩ ⟨by simp only; omega, by simp only; omega, has, pre, H4 (), h5⟩ (by simp only; omega) rfl rfl (by repeat (first|exact .nil|refine .cons rfl (by first|rfl|(congr 1; done)|exact congrArg _ (by omega)|(simp; done)) ?_)) (by repeat (first|exact .nil|refine .keep (by first|rfl|assumption) ?_|refine .drop ?_|exact MSub.refl _))
   rw [hst, if_pos hlb, List.flatMap_append, List.flatMap_cons, List.flatMap_nil, List.append_nil] at h4
   obtain ⟨w1, w2, w3⟩ := sub_facts s h16 a (by omega) (by omega) h2 h3
   have hpc := pc_le s h16
   have H4 := fun (_ : Unit) => h4
   clear h4
   repeat (first|refine lVa rfl rfl (v_andA rfl rfl han) ?_|refine lVa rfl rfl (v_andA rfl rfl hsn) ?_|refine lVa rfl rfl (by first|exact v_neg rfl (by omega) (by omega)|exact pEv rfl|exact vLd rfl (by repeat constructor) rfl (by rfl)|exact vL0 rfl (by assumption) rfl (by rfl)|fail) ?_|refine lNi ?_|refine cRg ?_|refine cSq ?_|refine xTh ?_|refine c_dec_t rfl (by first|omega|fail) ?_|refine c_dec_f rfl (by first|omega|fail) ?_|refine cBl ?_|refine cSk ?_|fail)
   refine r_call1 (ι := Nat) (v := fun b => .func (.func 47) ⟨[]⟩ ⟨[.pointer (some ⟨b, 0, none⟩)]⟩) (bk := fun b => b) (o := fun _ => .cells ⟨[.int .i64 a]⟩ 3 (0, 0)) rfl rfl rfl (fun W _ => trees22_calls a W) (fun ba => ?_)
   repeat (first|refine lNi ?_|refine xTh ?_|refine cBl ?_|fail)
   obtain ⟨ny, hny⟩ : ∃ ny, (trL f (wo s a)).length = ny := ⟨_, rfl⟩
   have hlen := trA_len (f := f) (s := s) (a := a)
   rw [hny] at hlen
   refine c_rangeT0 (env' := [(1, .pointer (some ⟨bs, 0, none⟩)), (2, .pointer (some ⟨b2, 0, none⟩)), (3, .pointer (some ⟨b3, 0, none⟩))]) HdT (trL f a) (fun b => b = ba) ((ba, .cells ⟨[.int .i64 a]⟩ 3 (0, 0)) :: (b3, .cells ⟨[.int .i64 a]⟩ 3 (0, 0)) :: (Ds.map opn ++ [(b2, .cells ⟨[.func (.yield lp) ⟨[]⟩ ⟨[]⟩]⟩ 87 (0, 0))])) (ι := Nat) (fun i => i) (fun i => i <= (trL f a).length) (fun _ => []) (fun i => J (k + i * ny)) 0 (fun i => cJ _) (by simp) rfl
    (fun W1 W2 hW1 hW2 => trees47_it f a (by omega) (by omega) (by omega) ba W2 (hW2.obj (hW1.own (ba, _) (by repeat constructor)).2 trivial)) (fun b hb => .inr (by subst hb; simp)) (fun x _ vs ms hd => by obtain ⟨_, _, _, _, rfl, _⟩ := hd; rfl) (by simp) rfl (Nat.zero_le _) (by rw [List.append_nil]; exact MSub.refl _) (by repeat (first|exact .nil|refine .cons rfl (by first|rfl|(congr 1; done)|exact congrArg _ (by omega)|(simp; done)) ?_)) ?_ ?_
   ·intro i hi hk vs ms hd n l W1 X hW1 hs1 hXl hlp hK
    obtain ⟨x, hx⟩ : ∃ x, (trL f a)[i] = x := ⟨_, rfl⟩
    rw [hx] at hd
    obtain ⟨bx, cx, rx, gx, rfl, rfl⟩ := hd
    have hxg : (trL f a)[i]? = some x := by rw [List.getElem?_eq_getElem hk, hx]
    have hxl := trL_len f a (by omega) (by omega) (by omega) x (List.mem_of_getElem? hxg)
    have e1 : Ext W1 (fun b => b = bs ∨ X b) bs 0 [.int .i64 (s : Int)] := hE.move hs1 fun b hb => .inl hb
    have e2 : Ext W1 (fun b => b = bs ∨ X b) b2 0 [.func (.yield lp) ⟨[]⟩ ⟨[]⟩] := ext_K (hK (b2, .cells ⟨[.func (.yield lp) ⟨[]⟩ ⟨[]⟩]⟩ 87 (0, 0)) (by simp))
    have e3 : Ext W1 (fun b => b = bs ∨ X b) b3 0 [.int .i64 (a : Int)] := ext_K (hK (b3, .cells ⟨[.int .i64 a]⟩ 3 (0, 0)) (by simp))
    simp only [List.append_nil]
    repeat (first|refine rSt (vs := [_]) rfl rfl rfl gSl_cells rfl rfl gSl_one (by repeat constructor) (by rfl) ?_|refine lNi ?_|refine cRg ?_|refine r_alloc rfl rfl rfl (by first|exact aggL|fail) (fun _ => ?_)|fail)
    rename_i b4
    refine x_bodyT (fun n2 W2 rl hW2 hs2 hr2 => ?_)
    have e1 := e1.begin hlp hs2
    have e2 := e2.begin hlp hs2
    have e3 := e3.begin hlp hs2
    repeat (first|refine lVa rfl rfl (v_andNotA rfl rfl hwo) ?_|refine lVa rfl rfl (by first|exact vL0 rfl (by assumption) rfl (by rfl)|fail) ?_|refine cRg ?_|refine cSq ?_|refine cBl ?_|fail)
    refine r_call1 (ι := Nat) (v := fun b => .func (.func 47) ⟨[]⟩ ⟨[.pointer (some ⟨b, 0, none⟩)]⟩) (bk := fun b => b) (o := fun _ => .cells ⟨[.int .i64 (wo s a : Nat)]⟩ 3 (0, 0)) rfl rfl rfl (fun W _ => trees22_calls (wo s a) W) (fun bb => ?_)
    repeat (first|refine lNi ?_|refine xTh ?_|refine cBl ?_|fail)
    refine c_rangeT1 (env' := [(1, .pointer (some ⟨bs, 0, none⟩)), (2, .pointer (some ⟨b2, 0, none⟩)), (4, .pointer (some ⟨b4, 0, none⟩))]) HdT (trL f (wo s a)) (fun b => b = bb) ((bb, .cells ⟨[.int .i64 (wo s a : Nat)]⟩ 3 (0, 0)) :: (b4, .cells ⟨[gSl x bx cx]⟩ 30 (0, 0)) :: gM nE 3 x bx rx) (ι := Nat) (fun j => j) (fun j => j <= (trL f (wo s a)).length) (fun _ => []) (fun j => JX (J (k + i * ny + j)) X) 0 (fun j => JX_closed (cJ _)) rfl (.inr hXl) ⟨rl, hr2⟩ rfl
     (fun W1 W2 hW1 hW2 => trees47_it f (wo s a) (by omega) (by omega) (by omega) bb W2 (hW2.obj (hW1.own (bb, _) (by repeat constructor)).2 trivial)) (fun b hb => .inr (by subst hb; simp)) (fun x _ vs ms hd => by obtain ⟨_, _, _, _, rfl, _⟩ := hd; rfl) (by simp) rfl (Nat.zero_le _) (by rw [List.append_nil]; exact MSub.refl _) (by repeat (first|exact .nil|refine .cons rfl (by first|rfl|(congr 1; done)|exact congrArg _ (by omega)|(simp; done)) ?_)) ?_ ?_
    ·intro j hj hk' vs ms hd n' l' W3 X' hW3 hs3 hXl' hlp' hK'
     obtain ⟨y, hy'⟩ : ∃ y, (trL f (wo s a))[j] = y := ⟨_, rfl⟩
     rw [hy'] at hd
     obtain ⟨by', cy, ry, gy, rfl, rfl⟩ := hd
     have hyg : (trL f (wo s a))[j]? = some y := by rw [List.getElem?_eq_getElem hk', hy']
     have hyl := trL_len f (wo s a) w2 (by omega) (by omega) y (List.mem_of_getElem? hyg)
     have e1 := e1.move hs3 (D' := fun b => (b = bs ∨ X b) ∨ X' b) fun b hb => .inl hb
     have e2 := e2.move hs3 (D' := fun b => (b = bs ∨ X b) ∨ X' b) fun b hb => .inl hb
     have e4 : Ext W3 (fun b => (b = bs ∨ X b) ∨ X' b) b4 0 [gSl x bx cx] := ext_K (D := fun b => b = bs ∨ X b) (hK' (b4, .cells ⟨[gSl x bx cx]⟩ 30 (0, 0)) (by simp))
     obtain ⟨Ax, kx, hAx, hxr⟩ := ar_K (W := W3) (D := fun b => b = bs ∨ X b) (X := X') (l := x) (b := bx) (cap := cx) (rest := rx) fun p hp => hK' p (List.mem_cons_of_mem _ (List.mem_cons_of_mem _ hp))
     simp only [List.append_nil]
     repeat (first|refine lVa rfl rfl (by first|exact pEv rfl|fail) ?_|refine lNi ?_|refine cRg ?_|fail)
     refine x_bodyT (fun n3 W4 rl' hW4 hs4 hr4 => ?_)
     have e1 := e1.begin hlp' hs4
     have e2 := e2.begin hlp' hs4
     have e4 := e4.begin hlp' hs4
     have hxr := ar_begin hxr hlp' hs4
     rw [hAx] at e4
     obtain ⟨Ay, ky, hAy⟩ := gSl_len (l := y) (b := by') (cap := cy)
     rw [hAy]
     have hcon : ∀ (mem : List (Nat × Obj)) (W : World) (b0 : Nat), SatW W4 (fun b => (b = bs ∨ X b) ∨ X' b) (JX (JX (J (k + i * ny + j)) X) X') mem W -> (b0, Obj.cells ⟨[.slice Ax x.length kx, .slice Ay y.length ky]⟩ 30 (0, 0)) ∈ mem -> (∀ p ∈ gM nE 3 y by' ry, p ∈ mem) -> At W (some ⟨b0, 0, none⟩) 1 [[.slice Ax x.length kx], [.slice Ay y.length ky]] /\ At W Ax 1 (x.map nE) /\ At W Ay 1 (y.map nE) := fun mem W b0 hW m1 m2 => by
      obtain ⟨A2, c2, q1, q2⟩ := at_gM (cap := cy) hW m2 (fun _ => rfl)
      rw [hAy] at q1
      cases q1
      exact ⟨hW.rows (b := b0) (rest := []) (rows := [[.slice Ax x.length kx], [.slice Ay y.length ky]]) m1 rfl (fun r hr => by simp only [List.mem_cons, List.not_mem_nil, or_false] at hr; rcases hr with rfl | rfl <;> rfl), hxr.at hW, q2⟩
     repeat ((fail_if_success refine c_probe (id := 11) ?_); (fail_if_success refine c_probe1 (id := 11) ?_); first|refine cBl ?_|fail)
     refine cSq ?_
     obtain ⟨l, hl⟩ : ∃ l, (x ++ y) ++ [s] = l := ⟨_, rfl⟩
     have hget : ((subL s s ((s - 1) &&& s)).flatMap (trA f s))[k + i * ny + j]? = some (isrt l) := by
      rw [H4 (), List.getElem?_append_right (by omega), h5, show k + i * ny + j - k = i * ny + j by omega]
      have := trA_at (s := s) hxg hyg
      rw [hny, hl] at this
      rw [List.getElem?_append_left (List.getElem?_eq_some_iff.1 this).1]
      exact this
     obtain ⟨hlt, hge⟩ := List.getElem?_eq_some_iff.1 hget
     have hl1 : 1 <= l.length := by rw [<- hl, List.length_append]; simp
     have hl12 : l.length <= 12 := by rw [<- hl, List.length_append, List.length_append, List.length_singleton]; omega
     by_cases hxy : x.length + y.length = 0
     ·have hx0 : x = [] := List.eq_nil_of_length_eq_zero (by omega)
      have hy0 : y = [] := List.eq_nil_of_length_eq_zero (by omega)
      subst hx0 hy0
      refine c_new 0 3 [(2, .new 0), (3, .cal (.slice none 0 0)), (5, .new 1), (6, .app 2 none 1)] [(2, [0]), (3, []), (5, [1]), (6, [2])] [(3, 0), (6, 1)] rfl (by decide +kernel) rfl ?_
      repeat (first|refine e_val rfl rfl rfl rfl (by first|exact pEv rfl|exact vL0 rfl (by assumption) rfl (by rfl)|fail) ?_|refine e_new rfl rfl rfl rfl (by first|exact n_buildSlice rfl rfl rfl rfl (by rfl)|fail) (fun _ => ?_)|fail)
      refine e_call rfl rfl rfl rfl rfl (fun W hW => ?_) ?_
      ·obtain ⟨m1, _, _⟩ := hcon _ W _ hW (by repeat constructor) (fun p hp => by cases hp)
       exact concat49_nil _ _ _ 2 _ _ W m1
      repeat (first|refine e_val rfl rfl rfl rfl (by first|exact vL0 rfl (by assumption) rfl (by rfl)|fail) ?_|refine e_new rfl rfl rfl rfl (by first|exact n_buildSlice rfl rfl rfl rfl (by rfl)|fail) (fun _ => ?_)|fail)
      refine e_app0 (xs := flN [s]) (n := 1) (e := 3) rfl rfl rfl rfl (by decide) rfl (by decide) rfl (a_append_nil rfl rfl rfl rfl (news_own (by repeat constructor)) rfl rfl (by decide) (by decide) (by decide)) (fun b8 c8 r8 hg8 => ?_)
      have hg8 : Grow 1 l.length (flN l) c8 r8 := by rw [<- hl]; exact hg8
      rw [show (flN [s] : List Value) = flN l by rw [<- hl]; rfl]
      have h1l : (1 : Nat) = l.length := by rw [<- hl]; rfl
      rw [show (Value.slice (some ⟨b8, 0, none⟩) 1 c8) = Value.slice (some ⟨b8, 0, none⟩) l.length c8 by rw [<- h1l]]
      clear h1l
      repeat (first|refine lVa rfl rfl (by first|exact pEv rfl|fail) ?_|refine cRg ?_|refine cSq ?_|refine xTh ?_|refine e_val rfl rfl rfl rfl (by first|exact pEv rfl|fail) ?_|refine e_nil rfl ?_|fail)
      refine r_callFJ (pre := [(b8, .cells ⟨flN l ++ r8⟩ 3 (0, 0))]) rfl rfl rfl perm3 (fun W _ _ hW => sort50_calls l b8 c8 r8 W hl12 hl1 (hW _ List.mem_cons_self)) (fun _ => ?_)
      repeat (first|refine lVa rfl rfl (by first|exact pEv rfl|exact vL0 rfl (by assumption) rfl (by rfl)|fail) ?_|refine lNi ?_|refine cRg ?_|refine cSq ?_|refine xTh ?_|fail)
      refine l_yieldT (ms := [(b8, .cells ⟨flN (isrt l) ++ r8⟩ 3 (0, 0))]) rfl rfl rfl rfl (.refl _) (JX_closed (X := X') (JX_closed (X := X) (cJ (k + i * ny + j + 1)))) (fun S A q1 q2 q3 q4 q5 q6 q7 q8 => ?_) ?_
      ·have hil : isrt l ≠ [] := fun e => by have := isrt_len l; rw [e] at this; simp at this; omega
       refine yield_mono (hy (k + i * ny + j) hlt (fun b => (S b ∨ X' b) ∨ X b) A [.slice (some ⟨b8, 0, none⟩) l.length c8] [(b8, .cells ⟨flN (isrt l) ++ r8⟩ 3 (0, 0))] ?_ ?_ ?_ q6 q7 ?_) ?_
       ·rw [hge]
        refine ⟨b8, c8, r8, fun _ => ?_, ?_, ?_⟩
        ·obtain ⟨g1, g2, g3, g4⟩ := hg8
         rw [flN_eq, isrt_len]
         refine ⟨by rw [flN_len, isrt_len]; omega, ?_, g3, g4⟩
         rw [List.length_append, flN_len] at g2
         rw [List.length_append, flN_len, isrt_len]; exact g2
        ·rw [gSl_ne hil, isrt_len]
        ·rw [gM_ne hil, flN_eq]
       ·exact cJ _ _ _ _ _ q1 (Same.refl _ _) fun b hb => .inl (by rcases hb with ((hb | hb) | hb) | hb <;> simp [hb])
       ·intro b hb
        rcases hb with ((hb | hb) | hb) | hb
        ·exact q2 b (.inl hb)
        ·exact q4 b (.inr hb)
        ·exact q4 b (.inl (.inr hb))
        ·exact q2 b (.inr hb)
       ·intro b hb h
        rcases h with (h | h) | h
        ·exact q8 b hb h
        ·exact (q5 b (.inr h)).2 hb
        ·exact (q5 b (.inl (.inr h))).2 hb
       ·rintro e B ⟨h1, h2, h3⟩
        exact ⟨h1, h2, h3.mono fun b hb => by rcases hb with hb | (hb | hb) | hb <;> simp [hb]⟩
      repeat (first|refine lVa rfl rfl (by first|exact pEv rfl|fail) ?_|refine lNi ?_|refine xTh ?_|refine c_false rfl ?_|refine cSk ?_|refine x_block ?_|fail)
      exact x_nextT (j + 1) rfl (by omega) rfl (by repeat (first|exact .nil|refine .keep (by first|rfl|assumption) ?_|refine .drop ?_|exact MSub.refl _))
     ·refine c_new 0 4 [(2, .new 0), (3, .calA 1 1 (x ++ y).length (((x ++ y).map nE).flatten) 3), (5, .new 2), (6, .app 3 (some 1) 1)] [(2, [0]), (3, [1]), (5, [2]), (6, [3, 1])] [(3, 0), (6, 1), (6, 2)] rfl (by decide +kernel) rfl ?_
      repeat (first|refine e_val rfl rfl rfl rfl (by first|exact pEv rfl|exact vL0 rfl (by assumption) rfl (by rfl)|fail) ?_|refine e_new rfl rfl rfl rfl (by first|exact n_buildSlice rfl rfl rfl rfl (by rfl)|fail) (fun _ => ?_)|fail)
      have hne : x ++ y ≠ [] := fun e => hxy (by have := congrArg List.length e; simpa using this)
      refine e_callA rfl rfl rfl rfl rfl (by decide) (nE_len _) (by unfold maxLen; rw [List.length_append]; omega) rfl (fun W hW => ?_) (fun b6 c6 r6 hg6 => ?_)
      ·obtain ⟨m1, m2, m3⟩ := hcon _ W _ hW (by repeat constructor) (fun p hp => by simp [hp])
       exact (concat49_calls _ _ _ 2 _ _ x y W m1 m2 m3 (by omega) (by omega) (by omega)).mono fun e w' ⟨q, q1, q2, q3, q4⟩ => ⟨_, _, _, q1, q.2, q2, q3, q4⟩
      repeat (first|refine e_val rfl rfl rfl rfl (by first|exact vL0 rfl (by assumption) rfl (by rfl)|fail) ?_|refine e_new rfl rfl rfl rfl (by first|exact n_buildSlice rfl rfl rfl rfl (by rfl)|fail) (fun _ => ?_)|fail)
      refine e_app (xs := flN l) (n := l.length) (e := 3) rfl rfl rfl rfl rfl (by decide) (by rw [flN_len, Nat.mul_one]) (by unfold maxLen; rw [<- hl, List.length_append, List.length_append, List.length_singleton]; omega) rfl ?_ (fun b8 c8 r8 hg8 => ?_)
      ·have hone : ∀ v ∈ [Value.int .i64 (s : Int)], v.oneCell' = true := allOne_mem rfl
       have hll : (x ++ y).length + 1 = l.length := by rw [<- hl, List.length_append (bs := [s])]; rfl
       have e : flN l = ((x ++ y).map nE).flatten ++ [.int .i64 (s : Int)] := by rw [<- hl, <- flN_eq, List.map_append, List.flatten_append]; rfl
       rw [e]
       exact a_append rfl rfl rfl rfl (news_own (by repeat constructor)) (by repeat constructor) hg6 rfl hone rfl hll (by omega) (by unfold maxLen; omega)
      repeat (first|refine lVa rfl rfl (by first|exact pEv rfl|fail) ?_|refine cRg ?_|refine cSq ?_|refine xTh ?_|refine e_val rfl rfl rfl rfl (by first|exact pEv rfl|fail) ?_|refine e_nil rfl ?_|fail)
      refine r_callFJ (pre := [(b8, .cells ⟨flN l ++ r8⟩ 3 (0, 0))]) rfl rfl rfl perm3 (fun W _ _ hW => sort50_calls l b8 c8 r8 W hl12 hl1 (hW _ List.mem_cons_self)) (fun _ => ?_)
      repeat (first|refine lVa rfl rfl (by first|exact pEv rfl|exact vL0 rfl (by assumption) rfl (by rfl)|fail) ?_|refine lNi ?_|refine cRg ?_|refine cSq ?_|refine xTh ?_|fail)
      refine l_yieldT (ms := [(b8, .cells ⟨flN (isrt l) ++ r8⟩ 3 (0, 0))]) rfl rfl rfl rfl (.refl _) (JX_closed (X := X') (JX_closed (X := X) (cJ (k + i * ny + j + 1)))) (fun S A q1 q2 q3 q4 q5 q6 q7 q8 => ?_) ?_
      ·have hil : isrt l ≠ [] := fun e => by have := isrt_len l; rw [e] at this; simp at this; omega
       refine yield_mono (hy (k + i * ny + j) hlt (fun b => (S b ∨ X' b) ∨ X b) A [.slice (some ⟨b8, 0, none⟩) l.length c8] [(b8, .cells ⟨flN (isrt l) ++ r8⟩ 3 (0, 0))] ?_ ?_ ?_ q6 q7 ?_) ?_
       ·rw [hge]
        refine ⟨b8, c8, r8, fun _ => ?_, ?_, ?_⟩
        ·obtain ⟨g1, g2, g3, g4⟩ := hg8
         rw [flN_eq, isrt_len]
         refine ⟨by rw [flN_len, isrt_len]; omega, ?_, g3, g4⟩
         rw [List.length_append, flN_len] at g2
         rw [List.length_append, flN_len, isrt_len]; exact g2
        ·rw [gSl_ne hil, isrt_len]
        ·rw [gM_ne hil, flN_eq]
       ·exact cJ _ _ _ _ _ q1 (Same.refl _ _) fun b hb => .inl (by rcases hb with ((hb | hb) | hb) | hb <;> simp [hb])
       ·intro b hb
        rcases hb with ((hb | hb) | hb) | hb
        ·exact q2 b (.inl hb)
        ·exact q4 b (.inr hb)
        ·exact q4 b (.inl (.inr hb))
        ·exact q2 b (.inr hb)
       ·intro b hb h
        rcases h with (h | h) | h
        ·exact q8 b hb h
        ·exact (q5 b (.inr h)).2 hb
        ·exact (q5 b (.inl (.inr h))).2 hb
       ·rintro e B ⟨h1, h2, h3⟩
        exact ⟨h1, h2, h3.mono fun b hb => by rcases hb with hb | (hb | hb) | hb <;> simp [hb]⟩
      repeat (first|refine lVa rfl rfl (by first|exact pEv rfl|fail) ?_|refine lNi ?_|refine xTh ?_|refine c_false rfl ?_|refine cSk ?_|refine x_block ?_|fail)
      exact x_nextT (j + 1) rfl (by omega) rfl (by repeat (first|exact .nil|refine .keep (by first|rfl|assumption) ?_|refine .drop ?_|exact MSub.refl _))
    ·intro j hk hi
     have hk : j = (trL f (wo s a)).length := hk
     subst hk
     repeat (first|refine x_block ?_|fail)
     refine x_nextT (i + 1) rfl (by omega) ?_ (by repeat (first|exact .nil|refine .keep (by first|rfl|assumption) ?_|refine .drop ?_|exact MSub.refl _))
     have e : k + (i + 1) * ny = k + i * ny + (trL f (wo s a)).length := by rw [hny, Nat.add_mul, Nat.one_mul]; omega
     show JX (J (k + i * ny + (trL f (wo s a)).length)) X = JX (J (k + (i + 1) * ny)) X
     rw [e]
   ·intro B i hk hi
    simp only at hk hi ⊢
    subst hk
    rw [List.append_nil]
    repeat (first|refine lVa rfl rfl (v_andA rfl rfl ham) ?_|refine lVa rfl rfl (by first|exact v_sub rfl rfl (by omega) (by omega)|exact vLd rfl (by repeat constructor) rfl (by rfl)|exact vL0 rfl (by assumption) rfl (by rfl)|fail) ?_|refine lNi ?_|refine cRg ?_|refine cSq ?_|refine xTh ?_|refine r_alloc rfl rfl rfl (by first|exact aggL|fail) (fun _ => ?_)|refine rSt rfl rfl rfl rfl rfl rfl rfl (by repeat constructor) (by rfl) ?_|refine x_block ?_|fail)
    rename_i b5
    exact x_backD ⟨(a - 1) &&& s, g, k + (trL f a).length * ny, b5, B :: Ds⟩ ⟨by simp only; omega, by simp only; omega, has, pre ++ trA f s a, by rw [H4 (), List.append_assoc], by rw [List.length_append, h5, hlen]⟩ (by simp only; omega) rfl rfl (by repeat (first|exact .nil|refine .cons rfl (by first|rfl|(congr 1; done)|exact congrArg _ (by omega)|(simp; done)) ?_)) (.keep rfl (.keep rfl (.drop (.drop (.refl _)))))
end R41
end Go.Proofs

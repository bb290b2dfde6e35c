/- Stemmata: the trees of a set are gathered, walked. -/
import Derived.Test.YtdegengehbdelaaGreatDoorSeT
import Derived.WalkKit
import Derived.Lib.Hide
import Derived.Sort.Statements
set_option maxRecDepth 100000
set_option maxHeartbeats 400000000
set_option linter.unusedSectionVars false
set_option linter.unusedVariables false
set_option linter.unusedSimpArgs false
namespace Go.Proofs
open Go.RowKit Go.Kin Go.Kin.Se Go.Kin.Cl
namespace R41
/-- a list in a list of lists: its numbers, where they lie -/
structure RwE where
 l : List Nat
 b : Nat
 c : Nat
 r : List Value
def RwE.v (e : RwE) : List Value := [gSl e.l e.b e.c]
def RwE.m (e : RwE) : List (Nat × Obj) := gM nE 3 e.l e.b e.r
theorem rwE_len (l : List RwE) : ((l.map RwE.v).flatten).length = l.length * 1 := by
 induction l with
 | nil => rfl
 | cons x l ih => rw [List.map_cons, List.flatten_cons, List.length_append, ih, List.length_cons]; show 1 + _ = _; omega
structure RwOK (xs : List (List Nat)) (es : List RwE) (c : Nat) (r : List Value) : Prop where
 ls : es.map (·.l) = xs
 ok : ∀ e ∈ es, gOK nE 1 e.l e.c e.r
 gr : gOK RwE.v 1 es c r
/-- a list of lists in blocks of its own -/
def RwI (xs : List (List Nat)) : Type := { p : List RwE × Nat × Nat × List Value // RwOK xs p.1 p.2.2.1 p.2.2.2 }
def RwI.v {xs : List (List Nat)} (i : RwI xs) : Value := gSl i.1.1 i.1.2.1 i.1.2.2.1
def RwI.m {xs : List (List Nat)} (i : RwI xs) : List (Nat × Obj) := gM RwE.v 30 i.1.1 i.1.2.1 i.1.2.2.2 ++ i.1.1.flatMap RwE.m
theorem perm_l {α : Type} {X g fl : List α} : (X ++ (g ++ fl)).Perm (g ++ (X ++ fl)) := by
 rw [<- List.append_assoc, <- List.append_assoc]
 exact (List.perm_append_comm (l₁ := X) (l₂ := g)).append_right fl
theorem perm_m {α : Type} {A G F : List α} {b : α} : (A ++ b :: (G ++ F)).Perm (b :: (G ++ (F ++ A))) := by
 rw [<- List.append_assoc]
 exact List.perm_middle.trans (List.perm_append_comm.cons b)
theorem perm_n {α : Type} {G F : List α} {a b : α} : (G ++ (a :: b :: F)).Perm (b :: (G ++ (a :: F))) := by
 have h1 : G ++ (a :: b :: F) = (G ++ [a]) ++ b :: F := by simp
 have h2 : G ++ (a :: F) = (G ++ [a]) ++ F := by simp
 rw [h1, h2]
 exact List.perm_middle
theorem split_self : ∀ m : List (Nat × Obj), Split m [] m
 | [] => .nil
 | _ :: m => .keep (split_self m)
theorem appendSeq72_calls (xs : List (List Nat)) (bs : Nat) (w : World) (hb : bs < w.heap.size) (hit : ∀ W1 : World, W1.heap[bs]? = w.heap[bs]? -> ItT Tryz.prog 47 [.pointer (some ⟨bs, 0, none⟩)] HdT xs (fun b => b = bs) W1) (hx : xs.length <= 1000) :
  Calls Tryz.prog 72 ⟨[.slice none 0 0, .func (.func 47) ⟨[]⟩ ⟨[.pointer (some ⟨bs, 0, none⟩)]⟩]⟩ w (FrQ [] (RwI.v (xs := xs)) (RwI.m (xs := xs)) w) := by
 have hsat := frQ_start (W := w) (pre := []) (by simp) fun p hp => by cases hp
 refine fEn Tryz.func72 rfl Tryz.ntmps72 rfl rfl hsat ?_
 repeat (first|refine lVa rfl rfl (by first|exact pEv rfl|fail) ?_|refine lNi ?_|refine cRg ?_|refine cSq ?_|refine xTh ?_|refine r_box rfl rfl rfl rfl (fun _ => ?_)|refine cBl ?_|fail)
 rename_i b2
 have hDb : allBut w (List.map (·.1) ([] : List (Nat × Obj))) bs := ⟨hb, by simp⟩
 refine c_rangeT0 (env' := [(2, .pointer (some ⟨b2, 0, none⟩))]) HdT xs (fun b => b = bs) [] (ι := List RwE × Nat × Nat × List Value) (fun p => p.1.length) (fun p => RwOK (xs.take p.1.length) p.1 p.2.2.1 p.2.2.2) (fun p => (b2, .cells ⟨[gSl p.1 p.2.1 p.2.2.1]⟩ 26 (0, 0)) :: (gM RwE.v 30 p.1 p.2.1 p.2.2.2 ++ p.1.flatMap RwE.m)) (fun _ => noJ) ([], 0, 0, []) (fun _ => closed_noJ) rfl rfl
  (fun W1 W2 hW1 hW2 => hit W2 ?_) (fun b hb => .inl (by subst hb; exact hDb)) (fun x _ vs ms hd => by obtain ⟨_, _, _, _, rfl, _⟩ := hd; rfl) (by simp) rfl ⟨rfl, fun e he => (by cases he), fun h => absurd rfl h⟩ (by repeat (first|exact .nil|refine .keep (by first|rfl|assumption) ?_|refine .drop ?_|exact MSub.refl _)) (by repeat (first|exact .nil|refine .cons rfl (by first|rfl|(congr 1; done)|exact congrArg _ (by omega)|(simp; done)) ?_)) ?_ ?_
 ·obtain ⟨o, ho⟩ : ∃ o, w.heap[bs]? = some o := ⟨_, Array.getElem?_eq_getElem hb⟩
  rw [ho]
  exact hW2.obj (hW1.same.obj ho hDb) trivial
 ·rintro ⟨es, b, c, r⟩ hI hk vs ms hd n l W1 X hW1 hs1 hXl hlp hK
  simp only at hI hk hd hW1 ⊢
  obtain ⟨x, hx'⟩ : ∃ x, xs[es.length] = x := ⟨_, rfl⟩
  rw [hx'] at hd
  obtain ⟨bx, cx, rx, gx, rfl, rfl⟩ := hd
  repeat (first|refine lVa rfl rfl (by first|exact pEv rfl|fail) ?_|refine lNi ?_|refine cRg ?_|fail)
  refine x_bodyT (fun n2 W2 rl hW2 hs2 hr2 => ?_)
  refine c_perm perm_m ?_
  obtain ⟨hIl, hIo, hIg⟩ := hI
  have hn := fun (_ : Unit) => hIg
  clear hIg
  obtain ⟨Ax, kx, hAx⟩ := gSl_len (l := x) (b := bx) (cap := cx)
  rw [hAx]
  have hys : (([⟨x, bx, cx, rx⟩] : List RwE).map RwE.v).flatten = [.slice Ax x.length kx] := by show [gSl x bx cx] = _; rw [hAx]
  repeat (first|refine lVa rfl rfl (by first|exact pEv rfl|exact vLd rfl (by repeat constructor) rfl (by rfl)|fail) ?_|refine cRg ?_|refine r_buildSlice rfl rfl rfl rfl rfl rfl (by rfl) (fun _ => ?_)|refine cBl ?_|fail)
  refine r_appendZ (f := RwE.v) (e := 30) (sz := 1) (xs := es) (ys := [⟨x, bx, cx, rx⟩]) (m := 1) rfl rfl rfl rfl rfl rfl rfl (by rw [hys]; exact .inr ⟨_, 0, rfl, news_own (by repeat constructor)⟩) (perm_l (X := [_, _])) (hn ()) rwE_len gSl_one rfl (by omega) (by unfold maxLen; omega) (fun b8 c8 r8 hg8 => ?_)
  refine l_perm perm_n ?_
  repeat (first|refine rSt (vs := [_]) rfl rfl rfl gSl_cells rfl rfl gSl_one (by repeat constructor) (by rfl) ?_|refine lNi ?_|refine x_block ?_|fail)
  refine x_sub _ (((List.sublist_cons_self _ _).append_left _).cons_cons _) ?_
  have htk : xs.take (es.length + 1) = xs.take es.length ++ [x] := by rw [List.take_add_one, List.getElem?_eq_getElem hk, hx']; rfl
  have hle : (es ++ [(⟨x, bx, cx, rx⟩ : RwE)]).length = es.length + 1 := by rw [List.length_append]; rfl
  refine x_nextT (es ++ [⟨x, bx, cx, rx⟩], b8, c8, r8) hle ⟨?_, ?_, hg8⟩ rfl ?_
  ·rw [hle, htk, <- hIl, List.map_append]; rfl
  ·intro e he
   rcases List.mem_append.1 he with he | he
   ·exact hIo e he
   ·rw [List.mem_singleton.1 he]; exact gx
  ·simp only [List.flatMap_append, List.flatMap_cons, List.flatMap_nil, List.append_nil]
   exact MSub.refl _
 ·rintro B ⟨es, b, c, r⟩ hk hI
  simp only at hk hI ⊢
  rw [hk, List.take_length] at hI
  repeat (first|refine lVa rfl rfl (by first|exact pEv rfl|exact vLd rfl (by repeat constructor) rfl (by rfl)|fail) ?_|refine lNi ?_|refine cRg ?_|refine cSq ?_|refine xTh ?_|refine c_ret ?_|refine x_block ?_|fail)
  exact x_rets (Ds := [B]) rfl rfl (.mark (.drop (split_self _))) rfl (.tmp rfl .nil) rfl (fun W hW => ⟨⟨(es, b, c, r), hI⟩, rfl, hW⟩)
theorem collect45_calls (xs : List (List Nat)) (bs : Nat) (w : World) (hb : bs < w.heap.size) (hit : ∀ W1 : World, W1.heap[bs]? = w.heap[bs]? -> ItT Tryz.prog 47 [.pointer (some ⟨bs, 0, none⟩)] HdT xs (fun b => b = bs) W1) (hx : xs.length <= 1000) :
  Calls Tryz.prog 45 ⟨[.func (.func 47) ⟨[]⟩ ⟨[.pointer (some ⟨bs, 0, none⟩)]⟩]⟩ w (FrQ [] (RwI.v (xs := xs)) (RwI.m (xs := xs)) w) := by
 have hsat := frQ_start (W := w) (pre := []) (by simp) fun p hp => by cases hp
 have hDb : allBut w (List.map (·.1) ([] : List (Nat × Obj))) bs := ⟨hb, by simp⟩
 obtain ⟨o, ho⟩ : ∃ o, w.heap[bs]? = some o := ⟨_, Array.getElem?_eq_getElem hb⟩
 refine fEn Tryz.func45 rfl Tryz.ntmps45 rfl rfl hsat ?_
 repeat (first|refine lVa rfl rfl (by first|exact pEv rfl|fail) ?_|refine lNi ?_|refine cRg ?_|refine cSq ?_|refine xTh ?_|fail)
 refine r_callF (pre := []) rfl rfl rfl (.refl _) (fun W hW _ _ => appendSeq72_calls xs bs W (Nat.lt_of_lt_of_le hb hW.same.size) (fun W1 hW1 => hit W1 ?_) hx) (fun i => ?_)
 ·rw [hW1, ho]; exact hW.same.obj ho hDb
 repeat (first|refine lVa rfl rfl (by first|exact pEv rfl|fail) ?_|refine lNi ?_|refine xTh ?_|refine c_ret ?_|fail)
 exact x_ret rfl rfl (.tmp rfl .nil) rfl (fun W hW => ⟨i, rfl, by rw [List.append_nil] at hW; exact hW⟩)
end R41
end Go.Proofs

set_option maxRecDepth 100000
set_option maxHeartbeats 400000000
namespace Go.Proofs
open Go.RowKit Go.Kin Go.Kin.Se Go.Kin.Cl Go.Sort
namespace R41
def cmpN (x y : Int) : Int := if x < y then -1 else if y < x then 1 else 0
def cmpM : List Int -> List Int -> Int
 | x :: a, y :: b => if x < y then -1 else if y < x then 1 else cmpM a b
 | _, _ => 0
theorem cmpM_same : ∀ (a : List Int), cmpM a a = 0
 | [] => rfl
 | x :: a => by rw [cmpM, if_neg (by omega), if_neg (by omega), cmpM_same a]
theorem cmpM_at : ∀ {a b : List Int} {k : Nat} {x y : Int}, (∀ i, i < k -> a[i]? = b[i]?) -> a[k]? = some x -> b[k]? = some y -> x ≠ y -> cmpM a b = cmpN x y
 | u :: a, v :: b, 0, x, y, _, ha, hb, hne => by
  cases ha; cases hb
  unfold cmpN
  rw [cmpM]
  by_cases h1 : u < v
  ·rw [if_pos h1, if_pos h1]
  ·rw [if_neg h1, if_neg h1, if_pos (by omega), if_pos (by omega)]
 | u :: a, v :: b, k + 1, x, y, h, ha, hb, hne => by
  have h0 := h 0 (by omega)
  simp only [List.getElem?_cons_zero, Option.some.injEq] at h0
  subst h0
  rw [cmpM, if_neg (by omega), if_neg (by omega)]
  exact cmpM_at (k := k) (fun i hi => by simpa using h (i + 1) (by omega)) (by simpa using ha) (by simpa using hb) hne
theorem nan77_any (x : Int) (w : World) : Calls Tryz.prog 77 #[.int .i64 x] w fun e w' => e = .returned (.bool false) /\ w' = w := by
 go_enter Tryz.func77, Tryz.ntmps77
 go_wp2
 go_ret
 exact ⟨by simp, rfl⟩
theorem cmp51_any (x y : Int) (w : World) : Calls Tryz.prog 51 #[.int .i64 x, .int .i64 y] w fun e w' => e = .returned (.int .i64 (cmpN x y)) /\ w' = w := by
 rcases Int.lt_trichotomy x y with h | h | h
 ·have H : Hid (cmpN x y = -1) := Lib.hid (by simp [cmpN, h])
  go_enter Tryz.func51, Tryz.ntmps51
  go_wp2_with (go_at_call 77; refine (nan77_any _ _).mono ?_; rintro e w' ⟨rfl, rfl⟩)
  go_ret
  exact ⟨by rw [H.out]; rfl, rfl⟩
 ·have H : Hid (cmpN x y = 0) := Lib.hid (by simp [cmpN, h])
  subst h
  go_enter Tryz.func51, Tryz.ntmps51
  go_wp2_with (go_at_call 77; refine (nan77_any _ _).mono ?_; rintro e w' ⟨rfl, rfl⟩)
  go_ret
  exact ⟨by rw [H.out]; rfl, rfl⟩
 ·have H : Hid (cmpN x y = 1) := Lib.hid (by unfold cmpN; rw [if_neg (by omega), if_pos h])
  have h' : ¬ x < y := by omega
  go_enter Tryz.func51, Tryz.ntmps51
  go_wp2_with (go_at_call 77; refine (nan77_any _ _).mono ?_; rintro e w' ⟨rfl, rfl⟩)
  go_ret
  exact ⟨by rw [H.out]; rfl, rfl⟩
theorem compare23_any (ba oa ca bb ob cb : Nat) (a b : List Int) (w : World) (hl : a.length = b.length) (hn : a.length <= 1000) (ha : ∀ k x, a[k]? = some x -> w.cell? ⟨ba, oa + k, none⟩ = some (.int .i64 x)) (hb : ∀ k x, b[k]? = some x -> w.cell? ⟨bb, ob + k, none⟩ = some (.int .i64 x)) :
  Calls Tryz.prog 23 #[.slice (some ⟨ba, oa, none⟩) a.length ca, .slice (some ⟨bb, ob, none⟩) b.length cb] w fun e w' => e = .returned (.int .i64 (cmpM a b)) /\ w' = w := by
 have HA := Lib.hid ha; clear ha
 have HB := Lib.hid hb; clear hb
 obtain ⟨n, hn2⟩ : ∃ n, a.length = n := ⟨_, rfl⟩
 have hbn : b.length = n := by omega
 have HL := Lib.hid hn2
 have HM := Lib.hid hbn
 rw [hn2] at hn
 rw [hn2, hbn]
 clear hl hn2 hbn
 go_enter Tryz.func23, Tryz.ntmps23
 go_wp2
 go_loop [11] (fun i => ∃ k : Nat, k <= n /\ i = .int .i64 k /\ Hid (∀ j, j < k -> a[j]? = b[j]?)) (fun i => n - (intOf i).toNat)
 case atStart => exact ⟨0, Nat.zero_le _, rfl, Lib.hid (fun j hj => by omega)⟩
 case round =>
  obtain ⟨k, hk, rfl, HE⟩ := hrel
  by_cases hlt : k < n
  ·obtain ⟨x, hx⟩ : ∃ x, a[k]? = some x := ⟨_, List.getElem?_eq_getElem (by rw [HL.out]; exact hlt)⟩
   obtain ⟨y, hy⟩ : ∃ y, b[k]? = some y := ⟨_, List.getElem?_eq_getElem (by rw [HM.out]; exact hlt)⟩
   have hca : w.cell? ⟨ba, oa + k, none⟩ = some (.int .i64 x) := HA.out k x hx
   have hcb : w.cell? ⟨bb, ob + k, none⟩ = some (.int .i64 y) := HB.out k y hy
   have hxy := Lib.hid hx; have hyy := Lib.hid hy
   clear hx hy
   by_cases hne : x = y
   ·have H0 : Hid (cmpN x y = 0) := Lib.hid (by unfold cmpN; rw [if_neg (by omega), if_neg (by omega)])
    have hne' := Lib.hid hne
    clear hne
    go_wp2_with (go_at_call 51; refine (cmp51_any _ _ _).mono ?_; rintro e w' ⟨rfl, rfl⟩; rw [H0.out])
    go_round
    case rel =>
     refine ⟨k + 1, by omega, by go_num, Lib.hid (fun j hj => ?_)⟩
     by_cases hjk : j = k
     ·subst hjk; rw [hxy.out, hyy.out, hne'.out]
     ·exact HE.out j (by omega)
    case measure => simp [intOf]; omega
   ·have H0 : Hid (cmpN x y ≠ 0) := Lib.hid (by unfold cmpN; split; omega; split <;> omega)
    have H1 : Hid (cmpM a b = cmpN x y) := Lib.hid (cmpM_at HE.out hxy.out hyy.out hne)
    obtain ⟨r, hr⟩ : ∃ r, cmpN x y = r := ⟨_, rfl⟩
    have hr' := Lib.hid hr
    have h0' : r ≠ 0 := by rw [<- hr]; exact H0.out
    clear hne hr
    go_wp2_with (go_at_call 51; refine (cmp51_any _ _ _).mono ?_; rintro e w' ⟨rfl, rfl⟩; rw [hr'.out])
    go_ret
    exact ⟨by rw [H1.out, hr'.out]; rfl, rfl⟩
  ·have hkn : k = n := by omega
   subst hkn
   have HS : Hid (cmpM a b = 0) := Lib.hid (by
    have : a = b := List.ext_getElem? fun j => by
     by_cases hj : j < k
     ·exact HE.out j hj
     ·rw [List.getElem?_eq_none (by rw [HL.out]; omega), List.getElem?_eq_none (by rw [HM.out]; omega)]
    rw [this]; exact cmpM_same b)
   go_wp2
   go_ret
   exact ⟨by rw [HS.out]; rfl, rfl⟩
/-- the first that is not 0 -/
theorem cmpN_neg {x y : Int} : cmpN x y < 0 ↔ x < y := by unfold cmpN; split <;> (try split) <;> omega
theorem cmpN_zero {x y : Int} : cmpN x y = 0 ↔ x = y := by unfold cmpN; split <;> (try split) <;> omega
def orN (x y : Int) : Int := if x ≠ 0 then x else y
theorem cmpM_cons {x y : Int} {a b : List Int} : cmpM (x :: a) (y :: b) = orN (cmpN x y) (cmpM a b) := by
 rw [cmpM]; unfold orN cmpN
 split <;> (try split) <;> simp_all
theorem orN_neg {x y : Int} : orN x y < 0 ↔ x < 0 ∨ (x = 0 /\ y < 0) := by unfold orN; split <;> omega
theorem orN_zero {x y : Int} : orN x y = 0 ↔ x = 0 /\ y = 0 := by unfold orN; split <;> omega
theorem cmpM_zero : ∀ {a b : List Int}, a.length = b.length -> (cmpM a b = 0 ↔ a = b)
 | [], [], _ => by simp [cmpM]
 | x :: a, y :: b, h => by
  rw [cmpM_cons, orN_zero, cmpN_zero, cmpM_zero (by simpa using h)]
  simp
theorem cmpM_trans : ∀ {a b c : List Int}, a.length = b.length -> b.length = c.length -> cmpM a b < 0 -> cmpM b c < 0 -> cmpM a c < 0
 | [], [], _, _, _, h, _ => by simp [cmpM] at h
 | x :: a, y :: b, z :: c, h1, h2, h3, h4 => by
  rw [cmpM_cons, orN_neg, cmpN_neg, cmpN_zero] at *
  rcases h3 with h3 | ⟨h3, h3'⟩ <;> rcases h4 with h4 | ⟨h4, h4'⟩
  ·left; omega
  ·left; omega
  ·left; omega
  ·right; exact ⟨by omega, cmpM_trans (by simpa using h1) (by simpa using h2) h3' h4'⟩
theorem cmpM_asym : ∀ {a b : List Int}, a.length = b.length -> (cmpM a b < 0 ∨ a = b ∨ cmpM b a < 0)
 | [], [], _ => .inr (.inl rfl)
 | x :: a, y :: b, h => by
  rw [cmpM_cons, cmpM_cons, orN_neg, orN_neg, cmpN_neg, cmpN_zero, cmpN_neg, cmpN_zero]
  by_cases h1 : x < y
  ·exact .inl (.inl h1)
  ·by_cases h2 : y < x
   ·exact .inr (.inr (.inl h2))
   ·have e : x = y := by omega
    subst e
    rcases cmpM_asym (a := a) (b := b) (by simpa using h) with h3 | rfl | h3
    ·exact .inl (.inr ⟨rfl, h3⟩)
    ·exact .inr (.inl rfl)
    ·exact .inr (.inr (.inr ⟨rfl, h3⟩))
theorem cmpM_irrefl {a : List Int} : ¬ cmpM a a < 0 := by rw [cmpM_same]; omega
theorem swoL {α : Type} (l : α -> List Int) (n : Nat) (h : ∀ x, (l x).length = n) : SWO (fun x y => decide (cmpM (l x) (l y) < 0)) where
 irrefl := fun x => decide_eq_false cmpM_irrefl
 trans := fun x y z h1 h2 => decide_eq_true (cmpM_trans (by rw [h, h]) (by rw [h, h]) (of_decide_eq_true h1) (of_decide_eq_true h2))
 ntrans := fun x y z h1 h2 => by
  have h1 := of_decide_eq_false h1
  have h2 := of_decide_eq_false h2
  refine decide_eq_false fun h3 => ?_
  rcases cmpM_asym (a := l x) (b := l y) (by rw [h, h]) with h4 | h4 | h4
  ·exact h1 h4
  ·rw [h4] at h3; exact h2 h3
  ·exact h2 (cmpM_trans (by rw [h, h]) (by rw [h, h]) h4 h3)
theorem compare23_nil (A B : Option Addr) (ca cb : Nat) (w : World) : Calls Tryz.prog 23 #[.slice A 0 ca, .slice B 0 cb] w fun e w' => e = .returned (.int .i64 0) /\ w' = w := by
 go_enter Tryz.func23, Tryz.ntmps23
 go_wp2
 go_loop [11] (fun i => i = .int .i64 0) (fun _ => 0)
 case atStart => rfl
 case round =>
  subst hrel
  go_wp2
  go_ret
  exact ⟨rfl, rfl⟩
end R41
end Go.Proofs

namespace Go.Proofs
open Go.RowKit Go.Kin Go.Kin.Se Go.Kin.Cl Go.Shelf Go.Sort
namespace R41
theorem row_holds1 {α : Type} [Inhabited α] {enc : α -> Value} {d : Array α} {w : World} {b : Nat} {cs rest : List Value} {T : TypeId} (hb : w.heap[b]? = some (.cells ⟨cs ++ rest⟩ T (0, 0))) (hc : d.toList.map enc = cs) : Holds enc w b 0 d := by
 intro j hj
 have hj2 : j < cs.length := by rw [<- hc]; simpa using hj
 constructor
 ·unfold World.cell?
  simp only [Nat.zero_add, hb]
  show (cs ++ rest).toArray[j]? = _
  rw [List.getElem?_toArray, List.getElem?_append_left hj2, <- hc, List.getElem?_map, Array.getElem?_toList, Array.getElem?_eq_getElem hj, getElem!_pos _ j hj]; rfl
 ·unfold World.frozen?
  simp [hb]
theorem row_put1 {α : Type} [Inhabited α] {enc : α -> Value} {d : Array α} {w : World} {b : Nat} {cs rest : List Value} {T : TypeId} (hb : w.heap[b]? = some (.cells ⟨cs ++ rest⟩ T (0, 0))) (hc : d.size = cs.length) :
  (putRow enc w b 0 d).heap[b]? = some (.cells ⟨d.toList.map enc ++ rest⟩ T (0, 0)) := by
 unfold putRow mapBlock
 simp only [Array.getElem?_modify, if_true, hb, Option.map_some, onCells]
 congr 2
 apply Array.ext'
 unfold putCells
 simp only [Array.toList_mapIdx, Nat.zero_le, true_and, Nat.zero_add, Nat.sub_zero]
 refine List.ext_getElem? fun t => ?_
 rw [List.getElem?_mapIdx]
 have hs : (d.toList.map enc).length = cs.length := by simp [hc]
 by_cases ht : t < cs.length
 ·rw [List.getElem?_append_left ht, List.getElem?_append_left (by omega), List.getElem?_eq_getElem ht]
  have h3 : t < d.size := by omega
  simp only [Option.map_some, h3, if_true]
  rw [List.getElem?_map, Array.getElem?_toList, Array.getElem?_eq_getElem h3, getElem!_pos _ t h3]; rfl
 ·rw [List.getElem?_append_right (by omega), List.getElem?_append_right (by omega), hs]
  have h3 : ¬ t < d.size := by omega
  simp only [h3, if_false]
  cases rest[t - cs.length]? <;> rfl
theorem row_other1 {α : Type} [Inhabited α] {enc : α -> Value} {d : Array α} {w : World} {b k : Nat} (h : k ≠ b) : (putRow enc w b 0 d).heap[k]? = w.heap[k]? := by
 unfold putRow mapBlock
 simp [Array.getElem?_modify, Ne.symm h]
theorem row_size1 {α : Type} [Inhabited α] {enc : α -> Value} {d : Array α} {w : World} {b : Nat} : (putRow enc w b 0 d).heap.size = w.heap.size := by
 unfold putRow mapBlock
 simp
theorem sortW_same1 {α : Type} [Inhabited α] {enc : α -> Value} {d : Array α} {w : World} {b m : Nat} {os : Array Obj} {ks : List Nat} (h : b ∈ ks) : Same (allBut w ks) w (sortWorld enc w b 0 m d os) where
 os := rfl
 tape := rfl
 output := rfl
 size := by
  unfold sortWorld grow
  simp only [Array.size_append, row_size1]
  show w.heap.size <= w.heap.size + _
  omega
 block := fun k hk hD => by
  have h1 : k ≠ b := fun e => hD.2 (e ▸ h)
  unfold sortWorld
  rw [heap_grow_old _ _ (by rw [row_size1]; exact hk), row_other1 h1]
  rfl
theorem sortW_row1 {α : Type} [Inhabited α] {enc : α -> Value} {d : Array α} {w : World} {b m : Nat} {os : Array Obj} {cs rest : List Value} {T : TypeId} (hb : w.heap[b]? = some (.cells ⟨cs ++ rest⟩ T (0, 0))) (hc : d.size = cs.length) :
  (sortWorld enc w b 0 m d os).heap[b]? = some (.cells ⟨d.toList.map enc ++ rest⟩ T (0, 0)) := by
 have h1 : (Sort.ahead w m).heap[b]? = some (.cells ⟨cs ++ rest⟩ T (0, 0)) := hb
 have h2 : b < w.heap.size := (Array.getElem?_eq_some_iff.1 hb).1
 unfold sortWorld
 rw [heap_grow_old _ _ (by rw [row_size1]; exact h2)]
 exact row_put1 h1 hc
theorem sortW_cell1 {α : Type} [Inhabited α] {enc : α -> Value} {d : Array α} {w : World} {b m : Nat} {os : Array Obj} {a : Addr} {v : Value} (h : w.cell? a = some v) (hne : a.block ≠ b) : (sortWorld enc w b 0 m d os).cell? a = some v := by
 have hlt := lt_of_cell h
 unfold sortWorld
 rw [cell?_grow _ _ _ (by rw [row_size1]; exact hlt)]
 rw [cell?_putRow_other enc _ _ _ _ _ (Or.inl hne)]
 exact h
theorem permIn_all {α : Type} [Inhabited α] {d d' : Array α} (h : PermIn 0 d.size d d') : d'.toList.Perm d.toList := by
 obtain ⟨h1, _, h3⟩ := h
 have e1 : d'.extract 0 d.size = d' := by rw [<- h1]; simp
 have e2 : d.extract 0 d.size = d := by simp
 rw [e1, e2] at h3
 exact h3
theorem gSl_cell1 {α : Type} {l : List α} {b c : Nat} : (gSl l b c).oneCell' = true := by cases l <;> rfl
theorem rwE_flat (es : List RwE) : (es.map RwE.v).flatten = es.map fun e => gSl e.l e.b e.c := by
 induction es with
 | nil => rfl
 | cons e es ih => rw [List.map_cons, List.flatten_cons, ih]; rfl
theorem cst_get {l : List Nat} {k : Nat} {x : Int} (h : (cst l)[k]? = some x) : ∃ y : Nat, l[k]? = some y /\ x = y := by
 unfold cst at h
 rw [List.getElem?_map] at h
 obtain ⟨y, h1, h2⟩ := Option.map_eq_some_iff.1 h
 exact ⟨y, h1, h2.symm⟩
theorem sortFunc46_calls (es : List RwE) (b cap n : Nat) (rest : List Value) (w : World) (hl : ∀ e ∈ es, e.l.length = n) (hn : n <= 1000) (hne : es ≠ []) (hlen : es.length <= 1000000)
  (hk : ∀ e ∈ es, ∀ k (x : Nat), e.l[k]? = some x -> e.b ≠ b /\ w.cell? ⟨e.b, 0 + k, none⟩ = some (.int .i64 x)) (hb : w.heap[b]? = some (.cells ⟨(es.map RwE.v).flatten ++ rest⟩ 30 (0, 0))) :
  Calls Tryz.prog 46 ⟨[.slice (some ⟨b, 0, none⟩) es.length cap, .func (.func 23) #[] #[]]⟩ w
   (FrQ [(b, .cells ⟨(es.map RwE.v).flatten ++ rest⟩ 30 (0, 0))] (fun _ : { rs : List RwE // rs.Perm es } => .tuple #[]) (fun i => [(b, .cells ⟨(i.1.map RwE.v).flatten ++ rest⟩ 30 (0, 0))]) w) := by
 obtain ⟨r0, hr0⟩ := List.exists_mem_of_ne_nil _ hne
 letI : Inhabited { r : RwE // r ∈ es } := ⟨⟨r0, hr0⟩⟩
 have hd : (es.attach.toArray.toList.map fun x : { r : RwE // r ∈ es } => gSl x.1.l x.1.b x.1.c) = (es.map RwE.v).flatten := by
  rw [rwE_flat, show es.attach.toArray.toList = es.attach from rfl, show (fun x : { r : RwE // r ∈ es } => gSl x.1.l x.1.b x.1.c) = (fun e : RwE => gSl e.l e.b e.c) ∘ Subtype.val from rfl, <- List.map_map, List.attach_map_subtype_val]
 have hsz : es.attach.toArray.size = es.length := by simp
 have hO : SWO (ltOf fun x y : { r : RwE // r ∈ es } => cmpM (cst x.1.l) (cst y.1.l)) := swoL (fun x : { r : RwE // r ∈ es } => cst x.1.l) n (fun x => by rw [cst_len]; exact hl _ x.2)
 have H := Any.slices_SortFunc laySort (α := { r : RwE // r ∈ es }) (fun x => gSl x.1.l x.1.b x.1.c) (fun x => gSl_cell1) (fun x y => cmpM (cst x.1.l) (cst y.1.l)) hO 23 #[] b 0 cap es.attach.toArray w (fun args w => Ent.ok args w) (by
   intro m os dk hs x y
   have h1 : ∀ (z : { r : RwE // r ∈ es }) (k : Nat) (v : Int), (cst z.1.l)[k]? = some v -> (sortWorld (fun x : { r : RwE // r ∈ es } => gSl x.1.l x.1.b x.1.c) w b 0 m dk os).cell? ⟨z.1.b, 0 + k, none⟩ = some (.int .i64 v) := fun z k v hv => by
    obtain ⟨u, hu, rfl⟩ := cst_get hv
    obtain ⟨q1, q2⟩ := hk _ z.2 k u hu
    exact sortW_cell1 q2 q1
   by_cases h0 : n = 0
   ·have hx : x.1.l = [] := List.eq_nil_of_length_eq_zero (by rw [hl _ x.2, h0])
    have hy : y.1.l = [] := List.eq_nil_of_length_eq_zero (by rw [hl _ y.2, h0])
    simp only [hx, hy]
    refine (compare23_nil none none 0 0 _).mono ?_
    rintro e w' ⟨h1, h2⟩
    exact ⟨h1, 0, #[], by rw [h2, grow_empty]; rfl⟩
   ·have hx : x.1.l ≠ [] := fun e => h0 (by rw [<- hl _ x.2, e]; rfl)
    have hy : y.1.l ≠ [] := fun e => h0 (by rw [<- hl _ y.2, e]; rfl)
    show Calls Tryz.prog 23 #[gSl x.1.l x.1.b x.1.c, gSl y.1.l y.1.b y.1.c] _ _
    rw [gSl_ne hx, gSl_ne hy]
    have := compare23_any x.1.b 0 x.1.c y.1.b 0 y.1.c (cst x.1.l) (cst y.1.l) _ (by rw [cst_len, cst_len, hl _ x.2, hl _ y.2]) (by rw [cst_len, hl _ x.2]; exact hn) (h1 x) (h1 y)
    rw [cst_len, cst_len] at this
    refine this.mono ?_
    rintro e w' ⟨h1, h2⟩
    exact ⟨h1, 0, #[], by rw [h2, grow_empty]; rfl⟩) (row_holds1 hb hd) (Array.getElem?_eq_some_iff.1 hb).1 (by rw [hsz]; omega)
 rw [hsz] at H
 refine H.mono ?_
 rintro e w' ⟨he, d', m, os, hp, hs, rfl⟩
 have hp2 := permIn_all (by rw [hsz]; exact hp)
 refine ⟨⟨d'.toList.map (·.1), ?_⟩, he, ?_⟩
 ·have h2 := hp2.map (fun x : { r : RwE // r ∈ es } => x.1)
  rwa [show es.attach.toArray.toList = es.attach from rfl, List.attach_map_subtype_val] at h2
 ·have hbl : b < w.heap.size := (Array.getElem?_eq_some_iff.1 hb).1
  refine ⟨sortW_same1 (by simp), fun k hkk => hkk.1, by simp, fun p hpp => ?_, closed_noJ, trivial⟩
  rw [List.mem_singleton.1 hpp]
  refine ⟨fun h => h.2 (by simp), ?_⟩
  have h3 := sortW_row1 (enc := fun x : { r : RwE // r ∈ es } => gSl x.1.l x.1.b x.1.c) (d := d') (m := m) (os := os) hb (by
   rw [hp.1, hsz, rwE_len, Nat.mul_one])
  rw [h3]
  show some _ = some (Obj.cells ⟨((d'.toList.map (·.1)).map RwE.v).flatten ++ rest⟩ 30 (0, 0))
  rw [rwE_flat, List.map_map]
  rfl
end R41
end Go.Proofs

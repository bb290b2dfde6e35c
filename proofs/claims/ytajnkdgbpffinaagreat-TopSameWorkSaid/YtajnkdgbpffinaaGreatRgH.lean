/- Rights: Holders, walked; and what is among a list. -/
import Derived.Test.YtajnkdgbpffinaaGreatRgG
set_option maxRecDepth 100000
set_option maxHeartbeats 400000000
set_option linter.unusedSectionVars false
set_option linter.unusedVariables false
set_option linter.unusedSimpArgs false
namespace Go.Proofs
open Go.RowKit Go.Kin Go.Kin.Cl
namespace R41
theorem prF_len {kind ed : Int} {S : List (Int × Int)} {x : Rg} : (prF kind ed S x).length <= S.length + 1 := by
 unfold prF pmPut
 split
 ·split
  ·omega
  ·simp
 ·omega
theorem prtL_len' {kind ed : Int} : ∀ (xs : List Rg) (S : List (Int × Int)), (xs.foldl (prF kind ed) S).length <= S.length + xs.length
 | [], S => Nat.le_refl _
 | x :: xs, S => by
  have h1 := prtL_len' (kind := kind) (ed := ed) xs (prF kind ed S x)
  have h2 := prF_len (kind := kind) (ed := ed) (S := S) (x := x)
  simp only [List.foldl_cons, List.length_cons]
  omega
theorem prtL_len {kind ed day time : Int} {l : List Rg} : (prtL kind ed (stL day time l)).length <= l.length := by
 have h1 := prtL_len' (kind := kind) (ed := ed) (stL day time l) []
 have h2 : (stL day time l).length <= l.length := List.length_filter_le _ _
 unfold prtL
 simp only [List.length_nil] at h1
 omega
/-- who holds a sign -/
def hldO (l : List Rg) (ed sign day time : Int) : List Int := hldL (prtL 2 ed (stL day time l)) sign
def hldE (l : List Rg) (sign day time : Int) : Int := if askedV l day time ≠ 0 then askedV l day time else if wiB sign 0 1048576 = true then 0 else 1
def hldR (l : List Rg) (ed sign day time : Int) : List Int := if hldE l sign day time = 0 then hldO l ed sign day time else []
theorem Holders15_calls (A : Option Addr) (cap : Nat) (l : List Rg) (ed sign day time : Int) (w : World) (hA : Kin.At w A 11 (l.map rgE)) (hl : l.length <= 1000) :
  Calls Tryz.prog 15 ⟨[.slice A l.length cap, .int .i64 ed, .int .i64 sign, .int .i64 day, .int .i64 time]⟩ w
   (FrQ [] (fun i : Nat × Nat × List Value => .tuple ⟨[gSl (hldR l ed sign day time) i.1 i.2.1, .int .i64 (hldE l sign day time)]⟩) (fun i => gM inE 3 (hldR l ed sign day time) i.1 i.2.2) w) := by
 have hsat := frQ_start (W := w) (pre := []) (by simp) fun p hp => by cases hp
 have hbl : ∀ {mem : List (Nat × Obj)} {W : World}, SatW w (allBut w (List.map (·.1) ([] : List (Nat × Obj)))) noJ mem W -> Under w.heap.size w W := fun hW => hW.same.below (Nat.le_refl _) fun k hk => ⟨hk, by simp⟩
 have ha := fun W (h : Under w.heap.size w W) => asked38_calls A cap l day time W (hA.later h) (by omega)
 have hp := fun W (h : Under w.heap.size w W) => parts40_calls A cap l 2 ed day time W (hA.later h) (by omega)
 have hpl := prtL_len (kind := 2) (ed := ed) (day := day) (time := time) (l := l)
 have hR : hldR l ed sign day time = if hldE l sign day time = 0 then hldO l ed sign day time else [] := rfl
 have hE : hldE l sign day time = if askedV l day time ≠ 0 then askedV l day time else if wiB sign 0 1048576 = true then 0 else 1 := rfl
 have hO : hldO l ed sign day time = hldL (prtL 2 ed (stL day time l)) sign := rfl
 have hw1 := fun W => within39_calls sign 0 1048576 W
 have hsg : wiB sign 0 1048576 = true -> 0 <= sign /\ sign <= 1048576 := fun h => of_decide_eq_true h
 generalize askedV l day time = z at *
 generalize wiB sign 0 1048576 = q at *
 generalize prtL 2 ed (stL day time l) = S at *
 generalize hldE l sign day time = e at *
 generalize hldO l ed sign day time = o at *
 generalize hldR l ed sign day time = R at *
 subst hO
 refine fEn Tryz.func15 rfl Tryz.ntmps15 rfl rfl hsat ?_
 repeat (first|refine lVa rfl rfl (by first|exact pEv rfl|fail) ?_|refine lNi ?_|refine cRg ?_|refine cSq ?_|refine xTh ?_|fail)
 refine r_call rfl rfl rfl (fun W hW => ha W (hbl hW)) ?_
 by_cases hz : z = 0
 rotate_left
 ·rw [if_pos hz] at hE
  subst hE
  rw [if_neg hz] at hR
  subst hR
  repeat (first|refine lVa rfl rfl (by first|exact pEv rfl|fail) ?_|refine lNi ?_|refine cRg ?_|refine cSq ?_|refine xTh ?_|refine c_dec_t rfl (by first|omega|fail) ?_|refine c_ret ?_|refine xTr ?_|fail)
  exact x_ret rfl rfl (by repeat constructor) rfl (fun W hW => ⟨(0, 0, []), rfl, hW⟩)
 rw [if_neg (fun h => h hz)] at hE
 repeat (first|refine lVa rfl rfl (by first|exact pEv rfl|fail) ?_|refine lNi ?_|refine cRg ?_|refine cSq ?_|refine xTh ?_|refine c_dec_f rfl (by first|omega|exact fun h => h rfl|fail) ?_|refine cSk ?_|fail)
 refine r_call rfl rfl rfl (fun W hW => hw1 W) ?_
 cases q with
 | false =>
  rw [if_neg (by simp)] at hE
  subst hE
  rw [if_neg (by decide)] at hR
  subst hR
  repeat (first|refine lVa rfl rfl (by first|exact pEv rfl|fail) ?_|refine lNi ?_|refine cRg ?_|refine cSq ?_|refine xTh ?_|refine c_true rfl ?_|refine c_ret ?_|refine xTr ?_|fail)
  exact x_ret rfl rfl (by repeat constructor) rfl (fun W hW => ⟨(0, 0, []), rfl, hW⟩)
 | true =>
 rw [if_pos rfl] at hE
 subst hE
 rw [if_pos rfl] at hR
 subst hR
 obtain ⟨hs1, hs2⟩ := hsg rfl
 repeat (first|refine lVa rfl rfl (by first|exact pEv rfl|fail) ?_|refine lNi ?_|refine cRg ?_|refine cSq ?_|refine xTh ?_|refine c_false rfl ?_|refine cSk ?_|fail)
 refine r_callF rfl rfl rfl (.refl _) (fun W hW _ _ => hp W (hbl hW)) (fun b => ?_)
 repeat (first|refine lVa rfl rfl (by first|exact pEv rfl|fail) ?_|fail)
 refine r_callF (pre := []) rfl rfl rfl (.refl _) (fun W hW _ _ => holders41_calls S b sign W (hW.own (b, _) (by repeat constructor)).2 (by omega) ⟨hs1, hs2⟩) (fun i => ?_)
 repeat (first|refine lVa rfl rfl (by first|exact pEv rfl|fail) ?_|refine lNi ?_|refine xTh ?_|refine c_ret ?_|fail)
 exact x_ret rfl rfl (by repeat constructor) rfl (fun W hW => ⟨i, rfl, hW.mono (List.sublist_append_left _ _)⟩)
/-! ## Among a list -/
theorem among17_calls (A : Option Addr) (cap : Nat) (l : List Int) (x : Int) (w : World) (hA : Kin.At w A 1 (l.map inE)) (hl : l.length <= 100000) : Calls Tryz.prog 17 ⟨[.slice A l.length cap, .int .i64 x]⟩ w fun e w' => e = .returned (.bool (decide (x ∈ l))) /\ Under w.heap.size w w' := by
 refine fEn Tryz.func17 rfl Tryz.ntmps17 rfl rfl (sWn w) ?_
 obtain ⟨n, hn⟩ : ∃ n, l.length = n := ⟨_, rfl⟩
 rw [hn] at hl ⊢
 repeat ((fail_if_success refine c_probe (id := 2) ?_); (fail_if_success refine c_probe1 (id := 2) ?_); first|refine lVa rfl rfl (by first|exact pEv rfl|fail) ?_|refine lNi ?_|refine cRg ?_|refine cSq ?_|refine xTh ?_|refine cBl ?_|fail)
 refine c_loop (ι := Nat) (fun k => k <= n /\ (Unit -> x ∉ l.take k)) (fun k => [(1, .int .i64 x), (7, .slice A n cap), (8, .int .i64 n), (9, .int .i64 k)]) (fun _ => []) (fun k => n - k) 0 ⟨Nat.zero_le _, fun _ => by simp⟩ (by repeat (first|exact .nil|refine .cons rfl (by first|rfl|(congr 1; done)|exact congrArg _ (by omega)|(simp; done)) ?_)) (by repeat (first|exact .nil|refine .keep (by first|rfl|assumption) ?_|refine .drop ?_|exact MSub.refl _)) ?_
 rintro k ⟨hk, hI⟩
 by_cases hlt : k < n
 rotate_left
 ·have hkn : k = n := by omega
  have hv : decide (x ∈ l) = false := decide_eq_false (by have := hI (); rwa [hkn, <- hn, List.take_length] at this)
  repeat ((fail_if_success refine c_probe (id := 8) ?_); (fail_if_success refine c_probe1 (id := 8) ?_); first|refine lVa rfl rfl (by first|exact pEv rfl|fail) ?_|refine lNi ?_|refine cRg ?_|refine cSq ?_|refine xTh ?_|refine c_dec_f rfl (by first|omega|fail) ?_|refine c_ret ?_|refine c_exit ?_|refine xTe ?_|refine xBs ?_|fail)
  exact x_ret rfl rfl (by repeat constructor) rfl (fun W hW => ⟨by rw [hv], hW.below⟩)
 obtain ⟨y, hy⟩ : ∃ y, l[k]? = some y := ⟨_, List.getElem?_eq_getElem (by omega)⟩
 obtain ⟨b, o, hAb, hc⟩ := hA k (inE y) (by rw [List.getElem?_map, hy]; rfl)
 have x1 := ext_of hc
 rw [Nat.mul_one] at x1
 rw [hAb]
 by_cases he : y = x
 ·have hv : decide (x ∈ l) = true := decide_eq_true (he ▸ List.mem_of_getElem? hy)
  repeat ((fail_if_success refine c_probe (id := 6) ?_); (fail_if_success refine c_probe1 (id := 6) ?_); first|refine lVa rfl rfl (by first|exact pEv rfl|exact vL0 rfl (by assumption) rfl (by rfl)|exact v_index rfl rfl rfl rfl (by omega) (by omega) (by with_reducible first|exact idx2 _ _|fail)|fail) ?_|refine lNi ?_|refine cRg ?_|refine cSq ?_|refine xTh ?_|refine c_dec_t rfl (by first|omega|fail) ?_|refine cBl ?_|refine cSk ?_|refine c_ret ?_|refine xTr ?_|refine xBr ?_|fail)
  exact x_ret rfl rfl (by repeat constructor) rfl (fun W hW => ⟨by rw [hv], hW.below⟩)
 have hI' : Unit -> x ∉ l.take (k + 1) := fun _ h => by
  rw [List.take_add_one, hy] at h
  rcases List.mem_append.1 h with h | h
  ·exact hI () h
  ·exact he (List.mem_singleton.1 h).symm
 repeat ((fail_if_success refine c_probe (id := 8) ?_); (fail_if_success refine c_probe1 (id := 8) ?_); first|refine lVa rfl rfl (by first|exact v_add rfl rfl (by omega) (by omega)|exact pEv rfl|exact vL0 rfl (by assumption) rfl (by rfl)|exact v_index rfl rfl rfl rfl (by omega) (by omega) (by with_reducible first|exact idx2 _ _|fail)|fail) ?_|refine lNi ?_|refine cRg ?_|refine cSq ?_|refine xTh ?_|refine c_dec_t rfl (by first|omega|fail) ?_|refine c_dec_f rfl (by first|omega|fail) ?_|refine cBl ?_|refine cSk ?_|refine x_block ?_|fail)
 exact x_back (k + 1) ⟨hlt, hI'⟩ (by omega) (by repeat (first|exact .nil|refine .cons rfl (by first|rfl|(congr 1; done)|exact congrArg _ (by omega)|(simp; done)) ?_)) (by repeat (first|exact .nil|refine .keep (by first|rfl|assumption) ?_|refine .drop ?_|exact MSub.refl _))
@[reducible] def mpE (p : Int × Int) : List Value := [.int .i64 p.1, .int .i64 p.2]
theorem lacks16_calls (A : Option Addr) (cap : Nat) (l : List (Int × Int)) (x : Int) (w : World) (hA : Kin.At w A 2 (l.map mpE)) (hl : l.length <= 100000) : Calls Tryz.prog 16 ⟨[.slice A l.length cap, .int .i64 x]⟩ w fun e w' => e = .returned (.bool (decide (x ∈ l.map (·.1)))) /\ Under w.heap.size w w' := by
 refine fEn Tryz.func16 rfl Tryz.ntmps16 rfl rfl (sWn w) ?_
 obtain ⟨n, hn⟩ : ∃ n, l.length = n := ⟨_, rfl⟩
 rw [hn] at hl ⊢
 repeat ((fail_if_success refine c_probe (id := 2) ?_); (fail_if_success refine c_probe1 (id := 2) ?_); first|refine lVa rfl rfl (by first|exact pEv rfl|fail) ?_|refine lNi ?_|refine cRg ?_|refine cSq ?_|refine xTh ?_|refine cBl ?_|fail)
 refine c_loop (ι := Nat) (fun k => k <= n /\ (Unit -> x ∉ (l.take k).map (·.1))) (fun k => [(1, .int .i64 x), (7, .slice A n cap), (8, .int .i64 n), (9, .int .i64 k)]) (fun _ => []) (fun k => n - k) 0 ⟨Nat.zero_le _, fun _ => by simp⟩ (by repeat (first|exact .nil|refine .cons rfl (by first|rfl|(congr 1; done)|exact congrArg _ (by omega)|(simp; done)) ?_)) (by repeat (first|exact .nil|refine .keep (by first|rfl|assumption) ?_|refine .drop ?_|exact MSub.refl _)) ?_
 rintro k ⟨hk, hI⟩
 by_cases hlt : k < n
 rotate_left
 ·have hkn : k = n := by omega
  have hv : decide (x ∈ l.map (·.1)) = false := decide_eq_false (by have := hI (); rwa [hkn, <- hn, List.take_length] at this)
  repeat ((fail_if_success refine c_probe (id := 8) ?_); (fail_if_success refine c_probe1 (id := 8) ?_); first|refine lVa rfl rfl (by first|exact pEv rfl|fail) ?_|refine lNi ?_|refine cRg ?_|refine cSq ?_|refine xTh ?_|refine c_dec_f rfl (by first|omega|fail) ?_|refine c_ret ?_|refine c_exit ?_|refine xTe ?_|refine xBs ?_|fail)
  exact x_ret rfl rfl (by repeat constructor) rfl (fun W hW => ⟨by rw [hv], hW.below⟩)
 obtain ⟨y, hy⟩ : ∃ y, l[k]? = some y := ⟨_, List.getElem?_eq_getElem (by omega)⟩
 obtain ⟨b, o, hAb, hc⟩ := hA k (mpE y) (by rw [List.getElem?_map, hy]; rfl)
 have x1 := ext_of hc
 rw [hAb]
 by_cases he : y.1 = x
 ·have hv : decide (x ∈ l.map (·.1)) = true := decide_eq_true (List.mem_map.2 ⟨y, List.mem_of_getElem? hy, he⟩)
  repeat ((fail_if_success refine c_probe (id := 6) ?_); (fail_if_success refine c_probe1 (id := 6) ?_); first|refine lVa rfl rfl (by first|exact pEv rfl|exact vLd rfl (by repeat constructor) rfl (by rfl)|exact vL0 rfl (by assumption) rfl (by rfl)|exact v_index rfl rfl rfl rfl (by omega) (by omega) (by with_reducible first|exact idx4 _ _ _|fail)|exact v_indexA rfl rfl rfl rfl (by omega) (by omega) (by with_reducible first|exact idx5 _|fail)|fail) ?_|refine lNi ?_|refine cRg ?_|refine cSq ?_|refine xTh ?_|refine r_alloc rfl rfl rfl (by first|exact aggL|fail) (fun _ => ?_)|refine rSt rfl rfl rfl rfl rfl rfl rfl (by repeat constructor) (by rfl) ?_|refine c_dec_t rfl (by first|omega|fail) ?_|refine cBl ?_|refine cSk ?_|refine c_ret ?_|refine xTr ?_|refine xBr ?_|fail)
  exact x_ret rfl rfl (by repeat constructor) rfl (fun W hW => ⟨by rw [hv], hW.below⟩)
 have hI' : Unit -> x ∉ (l.take (k + 1)).map (·.1) := fun _ h => by
  rw [List.take_add_one, hy, List.map_append] at h
  rcases List.mem_append.1 h with h | h
  ·exact hI () h
  ·exact he (List.mem_singleton.1 h).symm
 repeat ((fail_if_success refine c_probe (id := 8) ?_); (fail_if_success refine c_probe1 (id := 8) ?_); first|refine lVa rfl rfl (by first|exact v_add rfl rfl (by omega) (by omega)|exact pEv rfl|exact vLd rfl (by repeat constructor) rfl (by rfl)|exact vL0 rfl (by assumption) rfl (by rfl)|exact v_index rfl rfl rfl rfl (by omega) (by omega) (by with_reducible first|exact idx4 _ _ _|fail)|exact v_indexA rfl rfl rfl rfl (by omega) (by omega) (by with_reducible first|exact idx5 _|fail)|fail) ?_|refine lNi ?_|refine cRg ?_|refine cSq ?_|refine xTh ?_|refine r_alloc rfl rfl rfl (by first|exact aggL|fail) (fun _ => ?_)|refine rSt rfl rfl rfl rfl rfl rfl rfl (by repeat constructor) (by rfl) ?_|refine c_dec_t rfl (by first|omega|fail) ?_|refine c_dec_f rfl (by first|omega|fail) ?_|refine cBl ?_|refine cSk ?_|refine x_block ?_|fail)
 exact x_back (k + 1) ⟨hlt, hI'⟩ (by omega) (by repeat (first|exact .nil|refine .cons rfl (by first|rfl|(congr 1; done)|exact congrArg _ (by omega)|(simp; done)) ?_)) (by repeat (first|exact .nil|refine .keep (by first|rfl|assumption) ?_|refine .drop ?_|exact MSub.refl _))
end R41
end Go.Proofs

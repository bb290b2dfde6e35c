/- Rights: Allowed, walked. -/
import Derived.Test.YtajnkdgbpffinaaGreatRgH
set_option maxRecDepth 100000
set_option maxHeartbeats 400000000
set_option linter.unusedSectionVars false
set_option linter.unusedVariables false
set_option linter.unusedSimpArgs false
namespace Go.Proofs
open Go.RowKit Go.Kin Go.Kin.Cl
namespace R41
/-- whose consent lacks -/
def lackB (C : List (Int × Int)) (n h : Int) : Bool := !decide ((h, 0) ∈ C) && !decide ((h, n + 1) ∈ C)
def misP (C : List (Int × Int)) (n : Int) (L : List Int) : List (Int × Int) := (L.filter (lackB C n)).map fun h => (n, h)
def misA (H C : List (Int × Int)) (n : Int) : List (Int × Int) := misP C n (hldL H n)
def misL (H C : List (Int × Int)) (D : List Int) : List (Int × Int) := D.flatMap (misA H C)
theorem prE_rows (l : List (Int × Int)) : ((l.map mpE).flatten).length = l.length * 2 := by
 induction l with
 | nil => rfl
 | cons x l ih => rw [List.map_cons, List.flatten_cons, List.length_append, ih]; show 2 + l.length * 2 = (l.length + 1) * 2; omega
theorem hldL_len (H : List (Int × Int)) (n : Int) : (hldL H n).length <= H.length := by
 unfold hldL
 refine Nat.le_trans (compact_le _) ?_
 rw [srtZ_len]
 unfold hoF
 rw [List.length_map]
 exact List.length_filter_le _ _
theorem misP_len {C : List (Int × Int)} {n : Int} {L : List Int} : (misP C n L).length <= L.length := by
 unfold misP; rw [List.length_map]; exact List.length_filter_le _ _
theorem misP_snoc {C : List (Int × Int)} {n h : Int} {L : List Int} {j : Nat} (hh : L[j]? = some h) : misP C n (L.take (j + 1)) = misP C n (L.take j) ++ (if lackB C n h then [(n, h)] else []) := by
 unfold misP
 rw [List.take_add_one, hh, List.filter_append, List.map_append]
 congr 1
 by_cases hp : lackB C n h <;> simp [hp]
theorem misL_snoc {H C : List (Int × Int)} {D : List Int} {k : Nat} {n : Int} (h : D[k]? = some n) : misL H C (D.take (k + 1)) = misL H C (D.take k) ++ misP C n (hldL H n) := by
 unfold misL
 rw [List.take_add_one, h, List.flatMap_append]
 simp [misA]
theorem misL_len {H C : List (Int × Int)} (hH : H.length <= 1000) : ∀ D : List Int, (misL H C D).length <= D.length * 1000
 | [] => Nat.le_refl _
 | n :: D => by
  have h1 := misL_len (C := C) hH D
  have h2 : (misA H C n).length <= 1000 := Nat.le_trans misP_len (Nat.le_trans (hldL_len H n) hH)
  show ((misA H C n) ++ misL H C D).length <= _
  rw [List.length_append, List.length_cons]
  omega
/-- drops in order -/
def okD (D : List Int) : Prop := D.length <= 64 /\ (∀ d ∈ D, 0 <= d /\ d <= 1048576) /\ D.Pairwise (· < ·)
def alwM (l : List Rg) (ed : Int) (D : List Int) (day time : Int) : List (Int × Int) := misL (prtL 2 ed (stL day time l)) (prtL 3 ed (stL day time l)) D
def alwR (l : List Rg) (ed : Int) (D : List Int) (day time : Int) : List (Int × Int) := if askedV l day time = 0 then alwM l ed D day time else []
def alwB (l : List Rg) (ed : Int) (D : List Int) (day time : Int) : Bool := decide (askedV l day time = 0) && (alwM l ed D day time).isEmpty
theorem msub_app : ∀ (a : List (Nat × Obj)) {m : List (Nat × Obj)}, MSub (a ++ m) m
 | [], _ => .refl _
 | _ :: a, _ => .drop (msub_app a)
structure AlT where
 k : Nat
 b : Nat
 c : Nat
 r : List Value
theorem Allowed14_calls (A : Option Addr) (cap : Nat) (l : List Rg) (ed : Int) (AD : Option Addr) (capD : Nat) (D : List Int) (day time : Int) (w : World) (hA : Kin.At w A 11 (l.map rgE)) (hl : l.length <= 1000) (hAD : Kin.At w AD 1 (D.map inE)) (hD : okD D) :
  Calls Tryz.prog 14 ⟨[.slice A l.length cap, .int .i64 ed, .slice AD D.length capD, .int .i64 day, .int .i64 time]⟩ w
   (FrQ [] (fun i : Nat × Nat × List Value => .tuple ⟨[.bool (alwB l ed D day time), gSl (alwR l ed D day time) i.1 i.2.1, .int .i64 (askedV l day time)]⟩) (fun i => gM mpE 54 (alwR l ed D day time) i.1 i.2.2) w) := by
 have hsat := frQ_start (W := w) (pre := []) (by simp) fun p hp => by cases hp
 have hbl : ∀ {mem : List (Nat × Obj)} {W : World}, SatW w (allBut w (List.map (·.1) ([] : List (Nat × Obj)))) noJ mem W -> Under w.heap.size w W := fun hW => hW.same.below (Nat.le_refl _) fun k hk => ⟨hk, by simp⟩
 have ha := fun W (h : Under w.heap.size w W) => asked38_calls A cap l day time W (hA.later h) (by omega)
 have hp2 := fun W (h : Under w.heap.size w W) => parts40_calls A cap l 2 ed day time W (hA.later h) (by omega)
 have hp3 := fun W (h : Under w.heap.size w W) => parts40_calls A cap l 3 ed day time W (hA.later h) (by omega)
 have hpl := prtL_len (kind := 2) (ed := ed) (day := day) (time := time) (l := l)
 have hR : alwR l ed D day time = if askedV l day time = 0 then alwM l ed D day time else [] := rfl
 have hB : alwB l ed D day time = (decide (askedV l day time = 0) && (alwM l ed D day time).isEmpty) := rfl
 have hM : alwM l ed D day time = misL (prtL 2 ed (stL day time l)) (prtL 3 ed (stL day time l)) D := rfl
 generalize askedV l day time = z at *
 generalize prtL 2 ed (stL day time l) = H at *
 generalize prtL 3 ed (stL day time l) = C at *
 generalize alwR l ed D day time = R at *
 generalize alwB l ed D day time = B at *
 generalize alwM l ed D day time = M at *
 subst hM
 obtain ⟨d64, dr, dp⟩ := hD
 obtain ⟨n, hn⟩ : ∃ n, D.length = n := ⟨_, rfl⟩
 rw [hn] at d64 ⊢
 have hext : ∀ {b o : Nat} {cs : List Value}, b < w.heap.size -> (∀ (j : Nat) (v : Value), cs[j]? = some v -> w.cell? ⟨b, o + j, none⟩ = some v) -> Ext w (allBut w (List.map (·.1) ([] : List (Nat × Obj)))) b o cs := fun h1 h2 => ⟨⟨h1, by simp⟩, h2⟩
 refine fEn Tryz.func14 rfl Tryz.ntmps14 rfl rfl hsat ?_
 repeat (first|refine lVa rfl rfl (by first|exact pEv rfl|fail) ?_|refine lNi ?_|refine cRg ?_|refine cSq ?_|refine xTh ?_|fail)
 refine r_call rfl rfl rfl (fun W hW => ha W (hbl hW)) ?_
 by_cases hz : z = 0
 rotate_left
 ·rw [if_neg hz] at hR
  subst hR
  rw [decide_eq_false hz] at hB
  subst hB
  repeat (first|refine lVa rfl rfl (by first|exact pEv rfl|fail) ?_|refine lNi ?_|refine cRg ?_|refine cSq ?_|refine xTh ?_|refine c_dec_t rfl (by first|omega|fail) ?_|refine c_ret ?_|refine xTr ?_|fail)
  exact x_ret rfl rfl (by repeat constructor) rfl (fun W hW => ⟨(0, 0, []), rfl, hW⟩)
 rw [if_pos hz] at hR
 subst hR
 rw [decide_eq_true hz, Bool.true_and] at hB
 subst hz
 repeat ((fail_if_success refine c_probe (id := 7) ?_); (fail_if_success refine c_probe1 (id := 7) ?_); first|refine lVa rfl rfl (by first|exact pEv rfl|fail) ?_|refine lNi ?_|refine cRg ?_|refine cSq ?_|refine xTh ?_|refine c_false rfl ?_|refine c_dec_f rfl (by first|omega|exact fun h => h rfl|fail) ?_|refine cBl ?_|refine cSk ?_|fail)
 refine c_loop (ι := Nat) (fun k => k <= n) (fun k => [(0, .slice A l.length cap), (1, .int .i64 ed), (2, .slice AD n capD), (3, .int .i64 day), (4, .int .i64 time), (31, .slice AD n capD), (32, .int .i64 n), (33, .int .i64 k), (11, .slice none 0 0)]) (fun _ => []) (fun k => n - k) 0 (Nat.zero_le _) (by repeat (first|exact .nil|refine .cons rfl (by first|rfl|(congr 1; done)|exact congrArg _ (by omega)|(simp; done)) ?_)) (by repeat (first|exact .nil|refine .keep (by first|rfl|assumption) ?_|refine .drop ?_|exact MSub.refl _)) ?_
 intro k hk
 by_cases hlt : k < n
 ·obtain ⟨d, hd⟩ : ∃ d, D[k]? = some d := ⟨_, List.getElem?_eq_getElem (by omega)⟩
  obtain ⟨bd, od, hAd, hcd⟩ := hAD k (inE d) (by rw [List.getElem?_map, hd]; rfl)
  have x1 := hext (ext_of hcd).dom (ext_of hcd).cell
  rw [Nat.mul_one] at x1
  obtain ⟨d1, d2⟩ := dr d (List.mem_of_getElem? hd)
  have hw1 := fun W => within39_calls d 0 1048576 W
  rw [show wiB d 0 1048576 = true from decide_eq_true ⟨d1, d2⟩] at hw1
  by_cases hk0 : k = 0
  ·rw [hAd]
   subst hk0
   repeat (first|refine lVa rfl rfl (by first|exact pEv rfl|exact vL0 rfl (by assumption) rfl (by rfl)|exact v_index rfl rfl rfl rfl (by omega) (by omega) (by with_reducible first|exact idx2 _ _|fail)|fail) ?_|refine lNi ?_|refine cRg ?_|refine cSq ?_|refine xTh ?_|refine c_dec_t rfl (by first|omega|fail) ?_|refine cBl ?_|refine cSk ?_|fail)
   refine r_call rfl rfl rfl (fun W hW => hw1 W) ?_
   repeat ((fail_if_success refine c_probe (id := 12) ?_); (fail_if_success refine c_probe1 (id := 12) ?_); first|refine lVa rfl rfl (by first|exact v_add rfl rfl (by omega) (by omega)|exact pEv rfl|fail) ?_|refine lNi ?_|refine cRg ?_|refine xTh ?_|refine l_skip rfl rfl ?_|refine c_false rfl ?_|refine cSk ?_|refine x_block ?_|fail)
   exact x_back (0 + 1) hlt (by omega) (by repeat (first|exact .nil|refine .cons rfl (by first|rfl|(congr 1; done)|exact congrArg _ (by omega)|(simp; done)) ?_)) (by repeat (first|exact .nil|refine .keep (by first|rfl|assumption) ?_|refine .drop ?_|exact MSub.refl _))
  obtain ⟨d', hd'⟩ : ∃ d, D[k - 1]? = some d := ⟨_, List.getElem?_eq_getElem (by omega)⟩
  obtain ⟨bd', od', hAd', hcd'⟩ := hAD (k - 1) (inE d') (by rw [List.getElem?_map, hd']; rfl)
  rw [hAd] at hAd'
  cases hAd'
  have x2 := hext (ext_of hcd').dom (ext_of hcd').cell
  rw [Nat.mul_one] at x2
  have hlt2 : d' < d := by
   obtain ⟨g1, g2⟩ := List.getElem?_eq_some_iff.1 hd
   obtain ⟨g3, g4⟩ := List.getElem?_eq_some_iff.1 hd'
   have := List.pairwise_iff_getElem.1 dp (k - 1) k g3 g1 (by omega)
   rw [g2, g4] at this; exact this
  rw [hAd]
  obtain ⟨k1, hk1⟩ : ∃ k1, k - 1 = k1 := ⟨_, rfl⟩
  have hkk : k = k1 + 1 := by omega
  rw [hk1] at x2
  subst hkk
  repeat ((fail_if_success refine c_probe (id := 9) ?_); (fail_if_success refine c_probe1 (id := 9) ?_); first|refine lVa rfl rfl (by first|exact pEv rfl|exact vL0 rfl (by assumption) rfl (by rfl)|exact v_index rfl rfl rfl rfl (by omega) (by omega) (by with_reducible first|exact idx2 _ _|fail)|fail) ?_|refine lNi ?_|refine cRg ?_|refine cSq ?_|refine xTh ?_|refine c_dec_t rfl (by first|omega|fail) ?_|refine cBl ?_|refine cSk ?_|fail)
  refine cSq ?_
  repeat ((fail_if_success refine c_probe (id := 10) ?_); (fail_if_success refine c_probe1 (id := 10) ?_); first|refine r_call rfl rfl rfl (fun W hW => hw1 W) ?_|refine lVa rfl rfl (v_subQ rfl rfl (show ((k1 + 1 : Nat) : Int) - 1 = (k1 : Int) by omega) (by omega) (by omega)) ?_|refine lVa rfl rfl (by first|exact v_add rfl rfl (by omega) (by omega)|exact pEv rfl|exact vL0 rfl (by assumption) rfl (by rfl)|exact v_index rfl rfl rfl rfl (by omega) (by omega) (by with_reducible first|exact idx2 _ _|fail)|fail) ?_|refine lNi ?_|refine cRg ?_|refine xTh ?_|refine c_dec_f rfl (by first|omega|fail) ?_|refine cSk ?_|refine x_block ?_|refine l_dec_t rfl rfl rfl rfl rfl (by first|omega|fail) ?_|fail)
  skip
  exact x_back (k1 + 1 + 1) hlt (by omega) (by repeat (first|exact .nil|refine .cons rfl (by first|rfl|(congr 1; done)|exact congrArg _ (by omega)|(simp; done)) ?_)) (by repeat (first|exact .nil|refine .keep (by first|rfl|assumption) ?_|refine .drop ?_|exact MSub.refl _))
 have hkn : k = n := by omega
 rw [hkn]
 clear hkn hlt hk
 repeat ((fail_if_success refine c_probe (id := 12) ?_); (fail_if_success refine c_probe1 (id := 12) ?_); first|refine lVa rfl rfl (by first|exact pEv rfl|fail) ?_|refine lNi ?_|refine cRg ?_|refine cSq ?_|refine xTh ?_|refine c_dec_f rfl (by first|omega|exact fun h => h rfl|fail) ?_|refine c_exit ?_|refine xTe ?_|refine xBs ?_|fail)
 refine cSq ?_
 refine cRg ?_
 repeat (first|refine lVa rfl rfl (by first|exact pEv rfl|fail) ?_|fail)
 refine r_callF rfl rfl rfl (.refl _) (fun W hW _ _ => hp2 W (hbl hW)) (fun bh => ?_)
 repeat (first|refine lVa rfl rfl (by first|exact pEv rfl|fail) ?_|fail)
 refine r_callF (pre := []) rfl rfl rfl (.refl _) (fun W hW _ _ => hp3 W (hbl hW)) (fun bc => ?_)
 repeat ((fail_if_success refine c_probe (id := 14) ?_); (fail_if_success refine c_probe1 (id := 14) ?_); first|refine lVa rfl rfl (by first|exact pEv rfl|fail) ?_|refine lNi ?_|refine cRg ?_|refine cSq ?_|refine xTh ?_|refine cBl ?_|fail)
 have hls : ∀ k, k <= n -> (misL H C (D.take k)).length <= 64000 := fun k hk => by
  have h1 := misL_len (C := C) (show H.length <= 1000 by omega) (D.take k)
  rw [List.length_take] at h1
  omega
 refine c_loop (ι := AlT) (fun s => s.k <= n /\ gOK mpE 2 (misL H C (D.take s.k)) s.c s.r) (fun s => [(11, gSl (misL H C (D.take s.k)) s.b s.c), (15, .map (some bh)), (16, .map (some bc)), (65, .slice AD n capD), (66, .int .i64 n), (67, .int .i64 s.k)])
  (fun s => (bc, pmO C) :: (bh, pmO H) :: gM mpE 54 (misL H C (D.take s.k)) s.b s.r) (fun s => n - s.k) ⟨0, 0, 0, []⟩ ⟨Nat.zero_le _, fun h => absurd rfl h⟩ (by repeat (first|exact .nil|refine .cons rfl (by first|rfl|(congr 1; done)|exact congrArg _ (by omega)|(simp; done)) ?_)) (by repeat (first|exact .nil|refine .keep (by first|rfl|assumption) ?_|refine .drop ?_|exact MSub.refl _)) ?_
 rintro ⟨k, b, c, r⟩ ⟨hk, hgr⟩
 simp only at hk hgr ⊢
 by_cases hlt : k < n
 rotate_left
 ·have hkn : k = n := by omega
  rw [hkn, <- hn, List.take_length]
  obtain ⟨M, hM⟩ : ∃ M, misL H C D = M := ⟨_, rfl⟩
  rw [hM] at hB ⊢
  cases M with
  | nil =>
   subst hB
   repeat (first|refine lVa rfl rfl (by first|exact pEv rfl|fail) ?_|refine lNi ?_|refine cRg ?_|refine cSq ?_|refine xTh ?_|refine c_dec_f rfl (by first|omega|fail) ?_|refine c_ret ?_|refine c_exit ?_|refine xTe ?_|refine xBs ?_|fail)
   exact x_ret rfl rfl (by repeat constructor) rfl (fun W hW => ⟨(0, 0, []), rfl, hW.mono (.cons _ (.cons _ (.refl _)))⟩)
  | cons m M =>
   subst hB
   repeat (first|refine lVa rfl rfl (by first|exact pEv rfl|fail) ?_|refine lNi ?_|refine cRg ?_|refine cSq ?_|refine xTh ?_|refine c_dec_f rfl (by first|omega|fail) ?_|refine c_ret ?_|refine c_exit ?_|refine xTe ?_|refine xBs ?_|fail)
   exact x_ret rfl rfl (by repeat constructor) rfl (fun W hW => ⟨(b, c, r), rfl, hW.mono (.cons _ (.cons _ (.refl _)))⟩)
 obtain ⟨d, hd⟩ : ∃ d, D[k]? = some d := ⟨_, List.getElem?_eq_getElem (by omega)⟩
 obtain ⟨bd, od, hAd, hcd⟩ := hAD k (inE d) (by rw [List.getElem?_map, hd]; rfl)
 have x1 := hext (ext_of hcd).dom (ext_of hcd).cell
 rw [Nat.mul_one] at x1
 obtain ⟨d1, d2⟩ := dr d (List.mem_of_getElem? hd)
 have hsn := misL_snoc (H := H) (C := C) hd
 have hl1 := hls (k + 1) hlt
 have hLl := hldL_len H d
 have hcall := fun (W : World) (hb : W.heap[bh]? = some (pmO H)) => holders41_calls H bh d W hb (by omega) ⟨d1, d2⟩
 obtain ⟨M, hM⟩ : ∃ M, misL H C (D.take k) = M := ⟨_, rfl⟩
 obtain ⟨L, hL⟩ : ∃ L, hldL H d = L := ⟨_, rfl⟩
 rw [hM] at hgr hsn ⊢
 rw [hL] at hsn hLl hcall
 obtain ⟨F, hF⟩ : ∃ F : Nat -> List (Int × Int), F = fun j => M ++ misP C d (L.take j) := ⟨_, rfl⟩
 have hF0 : M = F 0 := by rw [hF]; simp [misP]
 have hFn : misL H C (D.take (k + 1)) = F L.length := by rw [hsn, hF]; simp only [List.take_length]
 have hFs : ∀ (j : Nat) (h : Int), L[j]? = some h -> F (j + 1) = F j ++ (if lackB C d h then [(d, h)] else []) := fun j h hh => by
  rw [hF]; simp only; rw [misP_snoc hh, List.append_assoc]
 have hFl : ∀ j, j <= L.length -> (F j).length <= 64000 := fun j hj => by
  rw [hFn] at hl1
  refine Nat.le_trans ?_ hl1
  rw [hF]
  simp only [List.length_append, List.take_length]
  unfold misP
  rw [List.length_map, List.length_map]
  exact Nat.add_le_add_left ((List.Sublist.filter _ (List.take_sublist j L)).length_le) _
 rw [hF0] at hgr ⊢
 clear hF hF0 hsn hL hM hl1 hls
 rw [hAd]
 have hgr' := fun (_ : Unit) => hgr
 clear hgr
 repeat ((fail_if_success refine c_probe (id := 16) ?_); (fail_if_success refine c_probe1 (id := 16) ?_); first|refine lVa rfl rfl (by first|exact pEv rfl|exact vL0 rfl (by assumption) rfl (by rfl)|exact v_index rfl rfl rfl rfl (by omega) (by omega) (by with_reducible first|exact idx2 _ _|fail)|fail) ?_|refine lNi ?_|refine cRg ?_|refine cSq ?_|refine xTh ?_|refine c_dec_t rfl (by first|omega|fail) ?_|refine cBl ?_|refine cSk ?_|fail)
 refine cSq ?_
 refine cRg ?_
 repeat (first|refine lVa rfl rfl (by first|exact pEv rfl|fail) ?_|fail)
 refine r_callF (pre := []) rfl rfl rfl (.refl _) (fun W hW _ _ => hcall W (hW.own (bh, _) (by repeat constructor)).2) (fun i => ?_)
 obtain ⟨AL, cL, hAL⟩ := gSl_len (l := L) (b := i.1) (cap := i.2.1)
 simp only [hAL]
 repeat ((fail_if_success refine c_probe (id := 17) ?_); (fail_if_success refine c_probe1 (id := 17) ?_); first|refine lVa rfl rfl (by first|exact pEv rfl|fail) ?_|refine lNi ?_|refine xTh ?_|refine cBl ?_|fail)
 refine c_loop (ι := AlT) (fun s => s.k <= L.length /\ gOK mpE 2 (F s.k) s.c s.r) (fun s => [(11, gSl (F s.k) s.b s.c), (15, .map (some bh)), (16, .map (some bc)), (65, .slice (some ⟨bd, od, none⟩) n capD), (66, .int .i64 n), (67, .int .i64 k), (18, .int .i64 d), (73, .slice AL L.length cL), (74, .int .i64 L.length), (75, .int .i64 s.k)])
  (fun s => gM inE 3 L i.1 i.2.2 ++ ((bc, pmO C) :: (bh, pmO H) :: gM mpE 54 (F s.k) s.b s.r)) (fun s => L.length - s.k) ⟨0, b, c, r⟩ ⟨Nat.zero_le _, hgr' ()⟩ (by repeat (first|exact .nil|refine .cons rfl (by first|rfl|(congr 1; done)|exact congrArg _ (by omega)|(simp; done)) ?_)) (.refl _) ?_
 clear hgr'
 rintro ⟨j, b, c, r⟩ ⟨hj, hgr⟩
 simp only at hj hgr ⊢
 by_cases hjl : j < L.length
 rotate_left
 ·have hjn : j = L.length := by omega
  subst hjn
  refine c_drop (msub_app _) ?_
  repeat ((fail_if_success refine c_probe (id := 23) ?_); (fail_if_success refine c_probe1 (id := 23) ?_); first|refine lVa rfl rfl (by first|exact v_add rfl rfl (by omega) (by omega)|exact pEv rfl|fail) ?_|refine lNi ?_|refine cRg ?_|refine cSq ?_|refine xTh ?_|refine c_dec_f rfl (by first|omega|fail) ?_|refine c_exit ?_|refine xTe ?_|refine x_block ?_|refine xBs ?_|fail)
  refine x_back ⟨k + 1, b, c, r⟩ ⟨hlt, by rw [hFn]; exact hgr⟩ (by simp only; omega) ?_ ?_
  ·simp only; rw [hFn]; exact (by repeat (first|exact .nil|refine .cons rfl (by first|rfl|(congr 1; done)|exact congrArg _ (by omega)|(simp; done)) ?_))
  ·simp only; rw [hFn]; exact (by repeat (first|exact .nil|refine .keep (by first|rfl|assumption) ?_|refine .drop ?_|exact MSub.refl _))
 have hne : L ≠ [] := fun e => by rw [e] at hjl; simp at hjl
 rw [gSl_ne hne] at hAL
 injection hAL with e1 e2 e3
 subst e1
 rw [gM_ne hne, flZ_eq]
 simp only [List.cons_append, List.nil_append]
 obtain ⟨h, hh⟩ : ∃ h, L[j]? = some h := ⟨_, List.getElem?_eq_getElem hjl⟩
 have hcell : (flZ L ++ i.2.2)[j]? = some (.int .i64 h) := by
  rw [List.getElem?_append_left (by rw [flZ_len]; exact hjl)]
  unfold flZ
  rw [List.getElem?_map, hh]; rfl
 have hsn := hFs j h hh
 have hlb : lackB C d h = (!decide ((h, 0) ∈ C) && !decide ((h, d + 1) ∈ C)) := rfl
 have hFj := hFl j hj
 obtain ⟨q0, hq0⟩ : ∃ q, decide ((h, 0) ∈ C) = q := ⟨_, rfl⟩
 obtain ⟨q1, hq1⟩ : ∃ q, decide ((h, d + 1) ∈ C) = q := ⟨_, rfl⟩
 rw [hq0, hq1] at hlb
 clear hFs hFl hFn
 have hgr' := fun (_ : Unit) => hgr
 clear hgr
 cases q0 with
 | true =>
  have hsn' : F (j + 1) = F j := by rw [hsn, hlb]; simp
  repeat ((fail_if_success refine c_probe (id := 19) ?_); (fail_if_success refine c_probe1 (id := 19) ?_); first|refine lVa rfl rfl (by first|exact pEv rfl|exact v_index rfl rfl rfl rfl (by omega) (by omega) (by with_reducible first|exact idx1 _|fail)|exact v_load_at rfl (by repeat constructor) rfl rfl (by first|assumption|fail)|fail) ?_|refine lNi ?_|refine cRg ?_|refine cSq ?_|refine xTh ?_|refine c_dec_t rfl (by first|omega|fail) ?_|refine cBl ?_|refine cSk ?_|fail)
  refine cSq ?_
  repeat ((fail_if_success refine c_probe (id := 20) ?_); (fail_if_success refine c_probe1 (id := 20) ?_); first|refine lVa rfl rfl (v_pmGetQ (k := (h, 0)) pairT99 rfl rfl rfl rfl (.own (by repeat constructor)) hq0) ?_|refine lVa rfl rfl (by first|exact v_add rfl rfl (by omega) (by omega)|exact pEv rfl|exact v_build rfl rfl (by rfl)|fail) ?_|refine lNi ?_|refine cRg ?_|refine xTh ?_|refine l_skip rfl rfl ?_|refine c_false rfl ?_|refine cSk ?_|refine x_block ?_|fail)
  skip
  refine x_back ⟨j + 1, b, c, r⟩ ⟨hjl, by rw [hsn']; exact hgr' ()⟩ (by simp only; omega) ?_ ?_
  ·simp only; rw [hsn']; exact (by repeat (first|exact .nil|refine .cons rfl (by first|rfl|(congr 1; done)|exact congrArg _ (by omega)|(simp; done)) ?_))
  ·simp only; rw [hsn']; exact (by repeat (first|exact .nil|refine .keep (by first|rfl|assumption) ?_|refine .drop ?_|exact MSub.refl _))
 | false =>
 cases q1 with
 | true =>
  have hsn' : F (j + 1) = F j := by rw [hsn, hlb]; simp
  repeat ((fail_if_success refine c_probe (id := 19) ?_); (fail_if_success refine c_probe1 (id := 19) ?_); first|refine lVa rfl rfl (by first|exact pEv rfl|exact v_index rfl rfl rfl rfl (by omega) (by omega) (by with_reducible first|exact idx1 _|fail)|exact v_load_at rfl (by repeat constructor) rfl rfl (by first|assumption|fail)|fail) ?_|refine lNi ?_|refine cRg ?_|refine cSq ?_|refine xTh ?_|refine c_dec_t rfl (by first|omega|fail) ?_|refine cBl ?_|refine cSk ?_|fail)
  refine cSq ?_
  repeat ((fail_if_success refine c_probe (id := 20) ?_); (fail_if_success refine c_probe1 (id := 20) ?_); first|refine lVa rfl rfl (v_pmGetQ (k := (h, 0)) pairT99 rfl rfl rfl rfl (.own (by repeat constructor)) hq0) ?_|refine lVa rfl rfl (v_pmGetQ (k := (h, d + 1)) pairT99 rfl rfl rfl rfl (.own (by repeat constructor)) hq1) ?_|refine lVa rfl rfl (by first|exact v_add rfl rfl (by omega) (by omega)|exact pEv rfl|exact v_build rfl rfl (by rfl)|fail) ?_|refine lNi ?_|refine cRg ?_|refine xTh ?_|refine c_false rfl ?_|refine cSk ?_|refine x_block ?_|fail)
  skip
  refine x_back ⟨j + 1, b, c, r⟩ ⟨hjl, by rw [hsn']; exact hgr' ()⟩ (by simp only; omega) ?_ ?_
  ·simp only; rw [hsn']; exact (by repeat (first|exact .nil|refine .cons rfl (by first|rfl|(congr 1; done)|exact congrArg _ (by omega)|(simp; done)) ?_))
  ·simp only; rw [hsn']; exact (by repeat (first|exact .nil|refine .keep (by first|rfl|assumption) ?_|refine .drop ?_|exact MSub.refl _))
 | false =>
 have hsn' : F (j + 1) = F j ++ [(d, h)] := by rw [hsn, hlb]; simp
 repeat ((fail_if_success refine c_probe (id := 19) ?_); (fail_if_success refine c_probe1 (id := 19) ?_); first|refine lVa rfl rfl (by first|exact pEv rfl|exact v_index rfl rfl rfl rfl (by omega) (by omega) (by with_reducible first|exact idx1 _|fail)|exact v_load_at rfl (by repeat constructor) rfl rfl (by first|assumption|fail)|fail) ?_|refine lNi ?_|refine cRg ?_|refine cSq ?_|refine xTh ?_|refine c_dec_t rfl (by first|omega|fail) ?_|refine cBl ?_|refine cSk ?_|fail)
 refine cSq ?_
 repeat ((fail_if_success refine c_probe (id := 20) ?_); (fail_if_success refine c_probe1 (id := 20) ?_); first|refine lVa rfl rfl (v_pmGetQ (k := (h, 0)) pairT99 rfl rfl rfl rfl (.own (by repeat constructor)) hq0) ?_|refine lVa rfl rfl (v_pmGetQ (k := (h, d + 1)) pairT99 rfl rfl rfl rfl (.own (by repeat constructor)) hq1) ?_|refine lVa rfl rfl (by first|exact v_add rfl rfl (by omega) (by omega)|exact pEv rfl|exact v_build rfl rfl (by rfl)|exact v_buildA rfl rfl rfl (by rfl)|fail) ?_|refine lNi ?_|refine cRg ?_|refine xTh ?_|refine r_buildSlice rfl rfl rfl rfl rfl rfl (by rfl) (fun _ => ?_)|refine c_true rfl ?_|fail)
 skip
 refine r_appendZ (f := mpE) (e := 54) (sz := 2) (xs := F j) (ys := [(d, h)]) (m := 1) rfl rfl rfl rfl rfl rfl rfl (.inr ⟨_, 0, rfl, news_own (by repeat constructor)⟩) (perm_tl (X := [_, _, _, _]) (G := [])) (hgr' ()) prE_rows rfl rfl (by omega) (by unfold maxLen; omega) (fun b8 c8 r8 hg8 => ?_)
 have hg8' := fun (_ : Unit) => hg8
 clear hg8
 refine l_perm List.perm_append_comm ?_
 simp only [List.cons_append, List.nil_append, List.append_nil]
 repeat ((fail_if_success refine c_probe (id := 22) ?_); (fail_if_success refine c_probe1 (id := 22) ?_); first|refine lVa rfl rfl (by first|exact v_add rfl rfl (by omega) (by omega)|exact pEv rfl|fail) ?_|refine lNi ?_|refine cRg ?_|refine xTh ?_|refine x_block ?_|fail)
 refine x_back ⟨j + 1, b8, c8, r8⟩ ⟨hjl, by rw [hsn']; exact hg8' ()⟩ (by simp only; omega) ?_ ?_
 ·simp only; rw [hsn']; exact (by repeat (first|exact .nil|refine .cons rfl (by first|rfl|(congr 1; done)|exact congrArg _ (by omega)|(simp; done)) ?_))
 ·simp only; rw [hsn']; exact (by repeat (first|exact .nil|refine .keep (by first|rfl|assumption) ?_|refine .drop ?_|exact MSub.refl _))
end R41
end Go.Proofs

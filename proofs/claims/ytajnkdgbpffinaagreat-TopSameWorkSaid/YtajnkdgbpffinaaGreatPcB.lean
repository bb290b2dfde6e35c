/- Rights: few enough entries, walked; and what the law says of rights, plain. -/
import Derived.Test.YtajnkdgbpffinaaGreatRgI
import Derived.Test.YtajnkdgbpffinaaGreatClK
import Derived.Test.YtajnkdgbpffinaaGreatRgF
set_option maxRecDepth 100000
set_option maxHeartbeats 400000000
set_option linter.unusedSectionVars false
set_option linter.unusedVariables false
set_option linter.unusedSimpArgs false
namespace Go.Proofs
open Go.RowKit Go.Kin Go.Kin.Cl
namespace R41
def shortB (x : Rg) : Bool := decide (x.na.size <= 100) && decide (x.tw.size <= 100)
def fewL (n : Nat) : Bool := decide (n <= 120) || (decide (512 < n) && decide (n <= 600))
def fewR (l : List Rg) : Bool := (l.take 600).all shortB && fewL l.length
theorem few5_calls (A : Option Addr) (cap : Nat) (l : List Rg) (w : World) (hA : Kin.At w A 11 (l.map rgE)) (hl : l.length <= 9223372036854775807) : Calls Tryz.prog 5 ⟨[.slice A l.length cap]⟩ w fun e w' => e = .returned (.bool (fewR l)) /\ Under w.heap.size w w' := by
 refine fEn Tryz.func5 rfl Tryz.ntmps5 rfl rfl (sWn w) ?_
 have hv : fewR l = ((l.take 600).all shortB && fewL l.length) := rfl
 obtain ⟨n, hn⟩ : ∃ n, l.length = n := ⟨_, rfl⟩
 rw [hn] at hl hv ⊢
 repeat ((fail_if_success refine c_probe (id := 2) ?_); (fail_if_success refine c_probe1 (id := 2) ?_); first|refine lVa rfl rfl (by first|exact pEv rfl|fail) ?_|refine lNi ?_|refine cRg ?_|refine cSq ?_|refine xTh ?_|refine cBl ?_|fail)
 refine c_loop (ι := Nat) (fun k => k <= n /\ k <= 600 /\ (Unit -> (l.take k).all shortB = true)) (fun k => [(0, .slice A n cap), (3, .int .i64 k)]) (fun _ => []) (fun k => 600 - k) 0 ⟨Nat.zero_le _, Nat.zero_le _, fun _ => rfl⟩ (by repeat (first|exact .nil|refine .cons rfl (by first|rfl|(congr 1; done)|exact congrArg _ (by omega)|(simp; done)) ?_)) (by repeat (first|exact .nil|refine .keep (by first|rfl|assumption) ?_|refine .drop ?_|exact MSub.refl _)) ?_
 rintro k ⟨hk, hk6, hI⟩
 have hend : ¬ (k < n /\ k < 600) -> (l.take 600).all shortB = true := fun h => by
  have h1 := hI ()
  by_cases h2 : k = 600
  ·rwa [h2] at h1
  ·rw [List.take_of_length_le (by omega)] at h1 ⊢
   exact h1
 by_cases hlt : k < n /\ k < 600
 rotate_left
 ·rw [hend hlt, Bool.true_and] at hv
  have hcases : (k < n /\ ¬ k < 600) ∨ ¬ k < n := by omega
  clear hend hI
  by_cases h1 : n <= 120
  ·have hf : fewL n = true := by unfold fewL; rw [decide_eq_true h1]; rfl
   rcases hcases with ⟨c1, c2⟩ | c1
   ·omega
   ·repeat (first|refine lVa rfl rfl (by first|exact pEv rfl|fail) ?_|refine lNi ?_|refine cRg ?_|refine cSq ?_|refine xTh ?_|refine l_skip rfl rfl ?_|refine c_false rfl ?_|refine c_ret ?_|refine c_exit ?_|refine xTe ?_|refine xBs ?_|refine l_dec_t rfl rfl rfl rfl rfl (by first|omega|fail) ?_|refine l_dec_f rfl rfl rfl rfl rfl (by first|omega|fail) ?_|fail)
    exact x_ret rfl rfl (by repeat constructor) rfl (fun W hW => ⟨by rw [hv, hf], hW.below⟩)
  by_cases h2 : 512 < n
  ·have hf : fewL n = decide (n <= 600) := by unfold fewL; rw [decide_eq_false h1, decide_eq_true h2]; rfl
   have hd : decide ((n : Int) <= 600) = decide (n <= 600) := decide_eq_decide.2 (by omega)
   rcases hcases with ⟨c1, c2⟩ | c1
   ·repeat (first|refine lVa rfl rfl (by first|exact pEv rfl|fail) ?_|refine lNi ?_|refine cRg ?_|refine cSq ?_|refine xTh ?_|refine c_dec_f rfl (by first|omega|fail) ?_|refine c_ret ?_|refine c_exit ?_|refine xTe ?_|refine xBs ?_|refine l_dec_t rfl rfl rfl rfl rfl (by first|omega|fail) ?_|refine l_dec_f rfl rfl rfl rfl rfl (by first|omega|fail) ?_|fail)
    exact x_ret rfl rfl (by repeat constructor) rfl (fun W hW => ⟨by rw [hv, hf, <- hd], hW.below⟩)
   ·repeat (first|refine lVa rfl rfl (by first|exact pEv rfl|fail) ?_|refine lNi ?_|refine cRg ?_|refine cSq ?_|refine xTh ?_|refine l_skip rfl rfl ?_|refine c_false rfl ?_|refine c_ret ?_|refine c_exit ?_|refine xTe ?_|refine xBs ?_|refine l_dec_t rfl rfl rfl rfl rfl (by first|omega|fail) ?_|refine l_dec_f rfl rfl rfl rfl rfl (by first|omega|fail) ?_|fail)
    exact x_ret rfl rfl (by repeat constructor) rfl (fun W hW => ⟨by rw [hv, hf, <- hd], hW.below⟩)
  have hf : fewL n = false := by unfold fewL; rw [decide_eq_false h1, decide_eq_false h2]; rfl
  rcases hcases with ⟨c1, c2⟩ | c1
  ·omega
  ·repeat (first|refine lVa rfl rfl (by first|exact pEv rfl|fail) ?_|refine lNi ?_|refine cRg ?_|refine cSq ?_|refine xTh ?_|refine l_skip rfl rfl ?_|refine c_false rfl ?_|refine c_ret ?_|refine c_exit ?_|refine xTe ?_|refine xBs ?_|refine l_dec_f rfl rfl rfl rfl rfl (by first|omega|fail) ?_|fail)
   exact x_ret rfl rfl (by repeat constructor) rfl (fun W hW => ⟨by rw [hv, hf], hW.below⟩)
 obtain ⟨hlt, hlt6⟩ := hlt
 obtain ⟨x, hx⟩ : ∃ x, l[k]? = some x := ⟨_, List.getElem?_eq_getElem (by omega)⟩
 obtain ⟨b, o, hAb, hc⟩ := hA k (rgE x) (by rw [List.getElem?_map, hx]; rfl)
 have x1 := ext_of hc
 rw [hAb]
 have hmem : x ∈ l.take 600 := by
  obtain ⟨g1, g2⟩ := List.getElem?_eq_some_iff.1 hx
  exact List.mem_take_iff_getElem.2 ⟨k, by omega, g2⟩
 have hbad : shortB x = false -> fewR l = false := fun h => by
  rw [hv, Bool.and_eq_false_iff]
  left
  rw [List.all_eq_false]
  exact ⟨x, hmem, by rw [h]; simp⟩
 clear hend
 by_cases h1 : x.na.size <= 100
 rotate_left
 ·have hz := hbad (by unfold shortB; rw [decide_eq_false h1]; rfl)
  repeat ((fail_if_success refine c_probe (id := 6) ?_); (fail_if_success refine c_probe1 (id := 6) ?_); first|refine lVa rfl rfl (by first|exact pEv rfl|exact vLe rfl (by assumption) rfl (by rfl)|exact v_index rfl rfl rfl rfl (by omega) (by omega) (by with_reducible first|exact idx4 _ _ _|fail)|fail) ?_|refine lNi ?_|refine cRg ?_|refine cSq ?_|refine xTh ?_|refine l_skip rfl rfl ?_|refine c_true rfl ?_|refine c_dec_t rfl (by first|omega|fail) ?_|refine cBl ?_|refine cSk ?_|refine c_ret ?_|refine xTr ?_|refine xBr ?_|refine l_dec_t rfl rfl rfl rfl rfl (by first|omega|fail) ?_|fail)
  exact x_ret rfl rfl (by repeat constructor) rfl (fun W hW => ⟨by rw [hz], hW.below⟩)
 by_cases h2 : x.tw.size <= 100
 rotate_left
 ·have hz := hbad (by unfold shortB; rw [decide_eq_false h2]; simp)
  repeat ((fail_if_success refine c_probe (id := 6) ?_); (fail_if_success refine c_probe1 (id := 6) ?_); first|refine lVa rfl rfl (by first|exact pEv rfl|exact vLe rfl (by assumption) rfl (by rfl)|exact v_index rfl rfl rfl rfl (by omega) (by omega) (by with_reducible first|exact idx4 _ _ _|fail)|fail) ?_|refine lNi ?_|refine cRg ?_|refine cSq ?_|refine xTh ?_|refine c_dec_t rfl (by first|omega|fail) ?_|refine cBl ?_|refine cSk ?_|refine c_ret ?_|refine xTr ?_|refine xBr ?_|refine l_dec_t rfl rfl rfl rfl rfl (by first|omega|fail) ?_|refine l_dec_f rfl rfl rfl rfl rfl (by first|omega|fail) ?_|fail)
  exact x_ret rfl rfl (by repeat constructor) rfl (fun W hW => ⟨by rw [hz], hW.below⟩)
 have hI' : Unit -> (l.take (k + 1)).all shortB = true := fun _ => by
  rw [List.take_add_one, hx, List.all_append, hI ()]
  show (shortB x && true) = true
  unfold shortB; rw [decide_eq_true h1, decide_eq_true h2]; rfl
 repeat ((fail_if_success refine c_probe (id := 6) ?_); (fail_if_success refine c_probe1 (id := 6) ?_); first|refine lVa rfl rfl (by first|exact v_add rfl rfl (by omega) (by omega)|exact pEv rfl|exact vLe rfl (by assumption) rfl (by rfl)|exact v_index rfl rfl rfl rfl (by omega) (by omega) (by with_reducible first|exact idx4 _ _ _|fail)|fail) ?_|refine lNi ?_|refine cRg ?_|refine cSq ?_|refine xTh ?_|refine c_dec_t rfl (by first|omega|fail) ?_|refine c_dec_f rfl (by first|omega|exact fun h => h rfl|fail) ?_|refine cBl ?_|refine cSk ?_|refine x_block ?_|refine l_dec_t rfl rfl rfl rfl rfl (by first|omega|fail) ?_|refine l_dec_f rfl rfl rfl rfl rfl (by first|omega|fail) ?_|fail)
 exact x_back (k + 1) ⟨hlt, hlt6, hI'⟩ (by omega) (by repeat (first|exact .nil|refine .cons rfl (by first|rfl|(congr 1; done)|exact congrArg _ (by omega)|(simp; done)) ?_)) (by repeat (first|exact .nil|refine .keep (by first|rfl|assumption) ?_|refine .drop ?_|exact MSub.refl _))
end R41
end Go.Proofs

namespace Go.Proofs
open Go.RowKit Go.Kin Go.Kin.Cl
namespace R41
theorem mis_mem {H C : List (Int × Int)} {D : List Int} {x : Int × Int} (h : x ∈ misL H C D) : x.1 ∈ D /\ x.2 ∈ hldL H x.1 := by
 obtain ⟨n, hn, hx⟩ := List.mem_flatMap.1 h
 obtain ⟨a, ha, rfl⟩ := List.mem_map.1 hx
 exact ⟨hn, (List.mem_filter.1 ha).1⟩
theorem mis_take {H C : List (Int × Int)} {D : List Int} (h : misL H C D = []) (k : Nat) : misL H C (D.take k) = [] := by
 refine List.eq_nil_iff_forall_not_mem.2 fun x hx => ?_
 obtain ⟨n, hn, hx⟩ := List.mem_flatMap.1 hx
 have : x ∈ misL H C D := List.mem_flatMap.2 ⟨n, List.mem_of_mem_take hn, hx⟩
 rw [h] at this
 cases this
theorem okD_take {D : List Int} (h : okD D) (k : Nat) : okD (D.take k) :=
 ⟨by rw [List.length_take]; have := h.1; omega, fun d hd => h.2.1 d (List.mem_of_mem_take hd), h.2.2.sublist (List.take_sublist k D)⟩
theorem okD_1 : okD [1] := ⟨by decide, fun d hd => by rw [List.mem_singleton.1 hd]; decide, List.pairwise_singleton _ _⟩
/-- when all is asked well -/
theorem hldE_ok {l : List Rg} {sign day time : Int} (h : askedV l day time = 0) (hs : 0 <= sign /\ sign <= 1048576) : hldE l sign day time = 0 := by
 unfold hldE
 rw [if_neg (fun e => e h), if_pos (show wiB sign 0 1048576 = true from decide_eq_true hs)]
theorem hldR_ok {l : List Rg} {ed sign day time : Int} (h : askedV l day time = 0) (hs : 0 <= sign /\ sign <= 1048576) : hldR l ed sign day time = hldO l ed sign day time := by
 unfold hldR
 rw [if_pos (hldE_ok h hs)]
theorem alwR_ok {l : List Rg} {ed day time : Int} {D : List Int} (h : askedV l day time = 0) : alwR l ed D day time = alwM l ed D day time := if_pos h
theorem alwB_ok {l : List Rg} {ed day time : Int} {D : List Int} (h : askedV l day time = 0) : alwB l ed D day time = (alwM l ed D day time).isEmpty := by
 unfold alwB
 rw [decide_eq_true h]; rfl
theorem alw_no {l : List Rg} {ed day time : Int} {D : List Int} (h : askedV l day time ≠ 0) : alwR l ed D day time = [] /\ alwB l ed D day time = false := by
 refine ⟨if_neg h, ?_⟩
 unfold alwB
 rw [decide_eq_false h]; rfl
theorem alw_take {l : List Rg} {ed day time : Int} {D : List Int} (h : alwM l ed D day time = []) (k : Nat) : alwM l ed (D.take k) day time = [] := mis_take h k
theorem hld_lack {l : List Rg} {ed sign day time : Int} {D : List Int} (h : hldO l ed sign day time = []) : sign ∉ (alwM l ed D day time).map (·.1) := fun hm => by
 obtain ⟨x, hx, rfl⟩ := List.mem_map.1 hm
 have := (mis_mem hx).2
 unfold hldO at h
 rw [h] at this
 cases this
theorem alw_mem {l : List Rg} {ed day time : Int} {D : List Int} {x : Int × Int} (h : x ∈ alwM l ed D day time) : x.1 ∈ D /\ x.2 ∈ hldO l ed x.1 day time := mis_mem h
theorem asked_nil {day time : Int} (h1 : 0 <= day /\ day <= 73048) (h2 : 0 <= time /\ time <= 134217727) : askedV [] day time = 0 := by
 unfold askedV
 rw [show chkR [] = 0 from rfl, if_neg (by simp), if_pos (⟨decide_eq_true h1, decide_eq_true h2⟩ : wiB day 0 73048 = true /\ wiB time 0 134217727 = true)]
theorem alw_nil {ed day time : Int} {D : List Int} : alwM [] ed D day time = [] := by
 refine List.eq_nil_iff_forall_not_mem.2 fun x hx => ?_
 have := (alw_mem hx).2
 have e : hldO [] ed x.1 day time = [] := by
  unfold hldO hldL hoF
  rw [show prtL 2 ed (stL day time []) = [] from rfl, List.filter_nil, List.map_nil, srtZ_nil]; rfl
 rw [e] at this
 cases this
end R41
end Go.Proofs

set_option maxRecDepth 100000
set_option maxHeartbeats 400000000
namespace Go.Proofs
open Go.RowKit Go.Kin Go.Kin.Cl
namespace R41
@[reducible] def rmE (id sg : Int) : List Value := [.int .i64 id, .int .i64 3, .int .i64 sg, .int .i64 0, .int .i64 0, .int .i64 0, .int .i64 0, .int .i64 0, .int .i64 0, .int .i64 0, .int .i64 0, .int .i64 0, .int .i64 0, .int .i64 0, .int .i64 0, .int .i64 0, .int .i64 0, .int .i64 0, .slice none 0 0]
theorem patch22_calls (id sg : Int) (w : World) (h1 : 1 <= id /\ id <= 1048576) (h2 : 0 <= sg /\ sg <= 1048576) : Calls Tryz.prog 22 ⟨[.agg ⟨rmE id sg⟩]⟩ w fun e w' => e = .returned (.int .i64 0) /\ Under w.heap.size w w' := by
 obtain ⟨a1, a2⟩ := h1
 obtain ⟨b1, b2⟩ := h2
 refine fEn Tryz.func22 rfl Tryz.ntmps22 rfl rfl (sWn w) ?_
 repeat ((fail_if_success refine c_probe (id := 5) ?_); (fail_if_success refine c_probe1 (id := 5) ?_); first|refine lVa rfl rfl (by first|exact pEv rfl|exact vLd rfl (by repeat constructor) rfl (by rfl)|fail) ?_|refine lNi ?_|refine cRg ?_|refine cSq ?_|refine xTh ?_|refine r_box rfl rfl rfl rfl (fun _ => ?_)|refine c_false rfl ?_|refine cBl ?_|refine cSk ?_|fail)
 rename_i bx
 refine c_loop (ι := Unit) (fun _ => True) (fun _ => [(1, .pointer (some ⟨bx, 0, none⟩)), (2, .int .i64 0), (13, .slice none 0 0), (14, .int .i64 0), (15, .int .i64 0)]) (fun _ => [(bx, .cells ⟨rmE id sg⟩ 34 (0, 0))]) (fun _ => 0) () trivial (by repeat (first|exact .nil|refine .cons rfl (by first|rfl|(congr 1; done)|exact congrArg _ (by omega)|(simp; done)) ?_)) (by repeat (first|exact .nil|refine .keep (by first|rfl|assumption) ?_|refine .drop ?_|exact MSub.refl _)) ?_
 rintro - -
 repeat ((fail_if_success refine c_probe (id := 26) ?_); (fail_if_success refine c_probe1 (id := 26) ?_); first|refine lVa rfl rfl (by first|exact pEv rfl|exact vLd rfl (by repeat constructor) rfl (by rfl)|exact v_build rfl rfl (by rfl)|exact v_eqS rfl rfl rfl rfl|fail) ?_|refine lNi ?_|refine cRg ?_|refine cSq ?_|refine xTh ?_|refine c_true rfl ?_|refine c_false rfl ?_|refine cBl ?_|refine cSk ?_|refine c_ret ?_|refine c_exit ?_|refine xTe ?_|refine x_block ?_|refine xBs ?_|refine l_dec_t rfl rfl rfl rfl rfl (by first|omega|fail) ?_|fail)
 exact x_ret rfl rfl (by repeat constructor) rfl (fun W hW => ⟨rfl, hW.below⟩)
end R41
end Go.Proofs

set_option maxRecDepth 100000
set_option maxHeartbeats 400000000
namespace Go.Proofs
open Go.RowKit Go.Kin Go.Kin.Cl
namespace R41
theorem at86_calls (s : Sg) (id : Int) (w : World) (h1 : 0 <= s.id /\ s.id <= 1048576) (h2 : 0 <= id /\ id <= 1048576) : Calls Tryz.prog 86 ⟨[.agg ⟨sgE s⟩, .int .i64 id]⟩ w fun e w' => e = .returned (.int .i64 (s.id - id)) /\ Under w.heap.size w w' := by
 refine fEn Tryz.func86 rfl Tryz.ntmps86 rfl rfl (sWn w) ?_
 repeat (first|refine lVa rfl rfl (by first|exact v_sub rfl rfl (by omega) (by omega)|exact pEv rfl|exact vLd rfl (by repeat constructor) rfl (by rfl)|fail) ?_|refine lNi ?_|refine cRg ?_|refine cSq ?_|refine xTh ?_|refine r_box rfl rfl rfl rfl (fun _ => ?_)|refine c_ret ?_|fail)
 exact x_ret rfl rfl (by repeat constructor) rfl (fun W hW => ⟨rfl, hW.below⟩)
theorem bsf85_calls (A : Option Addr) (cap : Nat) (l : List Sg) (i : Nat) (id : Int) (w : World) (hA : Kin.At w A 14 (l.map sgE)) (hl : l.length <= 100000) (hr : ∀ s ∈ l, 0 <= s.id /\ s.id <= 1048576) (hid : 0 <= id /\ id <= 1048576)
  (hi : i < l.length) (hlo : ∀ (j : Nat) (s : Sg), l[j]? = some s -> j < i -> s.id < id) (hat : ∀ s, l[i]? = some s -> s.id = id) (hhi : ∀ (j : Nat) (s : Sg), l[j]? = some s -> i < j -> id < s.id) :
  Calls Tryz.prog 85 ⟨[.slice A l.length cap, .int .i64 id, .func (.func 86) ⟨[]⟩ ⟨[]⟩]⟩ w fun e w' => e = .returned (.tuple ⟨[.int .i64 i, .bool true]⟩) /\ Under w.heap.size w w' := by
 obtain ⟨n, hn⟩ : ∃ n, l.length = n := ⟨_, rfl⟩
 rw [hn] at hl hi ⊢
 refine fEn Tryz.func85 rfl Tryz.ntmps85 rfl rfl (sWn w) ?_
 repeat ((fail_if_success refine c_probe (id := 3) ?_); (fail_if_success refine c_probe1 (id := 3) ?_); first|refine lVa rfl rfl (by first|exact pEv rfl|fail) ?_|refine lNi ?_|refine cRg ?_|refine cSq ?_|refine xTh ?_|refine cBl ?_|fail)
 refine c_loop (ι := Nat × Nat) (fun s => s.1 <= i /\ i <= s.2 /\ s.2 <= n) (fun s => [(0, .slice A n cap), (1, .int .i64 id), (2, .func (.func 86) ⟨[]⟩ ⟨[]⟩), (8, .int .i64 n), (9, .int .i64 s.1), (10, .int .i64 s.2)]) (fun _ => []) (fun s => s.2 - s.1) (0, n) ⟨Nat.zero_le _, Nat.le_of_lt hi, Nat.le_refl _⟩ (by repeat (first|exact .nil|refine .cons rfl (by first|rfl|(congr 1; done)|exact congrArg _ (by omega)|(simp; done)) ?_)) (by repeat (first|exact .nil|refine .keep (by first|rfl|assumption) ?_|refine .drop ?_|exact MSub.refl _)) ?_
 rintro ⟨lo, hh⟩ ⟨g1, g2, g3⟩
 simp only at g1 g2 g3 ⊢
 have hget : ∀ j, j < n -> ∃ s, l[j]? = some s /\ (0 <= s.id /\ s.id <= 1048576) /\ ∃ b o, A = some ⟨b, o, none⟩ /\ Ext w (base w) b (o + j * 14) (sgE s) := fun j hj => by
  obtain ⟨s, hs⟩ : ∃ s, l[j]? = some s := ⟨_, List.getElem?_eq_getElem (by omega)⟩
  obtain ⟨b, o, hAb, hc⟩ := hA j (sgE s) (by rw [List.getElem?_map, hs]; rfl)
  exact ⟨s, hs, hr s (List.mem_of_getElem? hs), b, o, hAb, ext_of hc⟩
 by_cases hlt : lo < hh
 rotate_left
 ·have h1 : lo = i := by omega
  subst h1
  obtain ⟨s, hs, hsr, b, o, hAb, x1⟩ := hget lo hi
  have he := hat s hs
  have hcl := fun W => at86_calls s id W hsr hid
  rw [hAb]
  clear hget hlo hhi hat
  repeat (first|refine lVa rfl rfl (by first|exact pEv rfl|exact vL0 rfl (by assumption) rfl (by rfl)|exact v_index rfl rfl rfl rfl (by omega) (by omega) (by with_reducible first|exact idx4 _ _ _|fail)|fail) ?_|refine lNi ?_|refine cRg ?_|refine cSq ?_|refine xTh ?_|refine c_dec_f rfl (by first|omega|fail) ?_|refine c_exit ?_|refine xTe ?_|refine xBs ?_|refine l_dec_t rfl rfl rfl rfl rfl (by first|omega|fail) ?_|fail)
  refine r_callv rfl rfl rfl rfl rfl (fun W hW => hcl W) ?_
  repeat (first|refine lVa rfl rfl (by first|exact pEv rfl|fail) ?_|refine lNi ?_|refine xTh ?_|refine c_ret ?_|fail)
  exact x_ret rfl rfl (by repeat constructor) rfl (fun W hW => ⟨by rw [decide_eq_true (show s.id - id = 0 by omega)], hW.below⟩)
 obtain ⟨m, hm⟩ : ∃ m, (lo + hh) / 2 = m := ⟨_, rfl⟩
 have hm1 : lo <= m /\ m < hh := by omega
 obtain ⟨s, hs, hsr, b, o, hAb, x1⟩ := hget m (by omega)
 have hcl := fun W => at86_calls s id W hsr hid
 rw [hAb]
 clear hget
 repeat ((fail_if_success refine c_probe (id := 4) ?_); (fail_if_success refine c_probe1 (id := 4) ?_); first|refine lVa rfl rfl (by first|exact pEv rfl|fail) ?_|refine lNi ?_|refine cRg ?_|refine cSq ?_|refine xTh ?_|refine c_dec_t rfl (by first|omega|fail) ?_|refine cBl ?_|refine cSk ?_|fail)
 refine cSq ?_
 refine cRg ?_
 refine lVa rfl rfl (by exact pEv rfl) ?_
 refine lVa rfl rfl (by exact pEv rfl) ?_
 refine lVa rfl rfl (v_add rfl rfl (by omega) (by omega)) ?_
 refine lVa rfl rfl (v_uconv (m := lo + hh) rfl rfl rfl (by omega)) ?_
 refine lVa rfl rfl (v_ushr (n := 1) rfl rfl (by omega)) ?_
 rw [show (lo + hh) / 2 ^ 1 = m by rw [Nat.pow_one]; exact hm]
 repeat ((fail_if_success refine c_probe (id := 5) ?_); (fail_if_success refine c_probe1 (id := 5) ?_); first|refine lVa rfl rfl (by first|exact v_iconv rfl rfl rfl (by omega) (by omega)|exact pEv rfl|fail) ?_|refine lNi ?_|refine xTh ?_|fail)
 refine cSq ?_
 repeat (first|refine lVa rfl rfl (by first|exact pEv rfl|exact vL0 rfl (by assumption) rfl (by rfl)|exact v_index rfl rfl rfl rfl (by omega) (by omega) (by with_reducible first|exact idx4 _ _ _|fail)|fail) ?_|refine cRg ?_|fail)
 refine r_callv rfl rfl rfl rfl rfl (fun W hW => hcl W) ?_
 by_cases hs1 : m < i
 ·have h3 := hlo m s hs hs1
  have h4 : s.id - id < 0 := by omega
  clear hlo hhi hat
  repeat ((fail_if_success refine c_probe (id := 8) ?_); (fail_if_success refine c_probe1 (id := 8) ?_); first|refine lVa rfl rfl (by first|exact v_add rfl rfl (by omega) (by omega)|exact pEv rfl|fail) ?_|refine lNi ?_|refine cRg ?_|refine xTh ?_|refine c_dec_t rfl (by first|omega|fail) ?_|refine x_block ?_|fail)
  exact x_back (m + 1, hh) ⟨hs1, g2, g3⟩ (by simp only; omega) (by repeat (first|exact .nil|refine .cons rfl (by first|rfl|(congr 1; done)|exact congrArg _ (by omega)|(simp; done)) ?_)) (by repeat (first|exact .nil|refine .keep (by first|rfl|assumption) ?_|refine .drop ?_|exact MSub.refl _))
 have h4 : ¬ s.id - id < 0 := by
  by_cases h5 : m = i
  ·subst h5; have := hat s hs; omega
  ·have := hhi m s hs (by omega); omega
 clear hlo hhi hat
 repeat ((fail_if_success refine c_probe (id := 8) ?_); (fail_if_success refine c_probe1 (id := 8) ?_); first|refine lVa rfl rfl (by first|exact pEv rfl|fail) ?_|refine lNi ?_|refine cRg ?_|refine xTh ?_|refine c_dec_f rfl (by first|omega|fail) ?_|refine x_block ?_|fail)
 exact x_back (lo, m) ⟨g1, by simp only; omega, by simp only; omega⟩ (by simp only; omega) (by repeat (first|exact .nil|refine .cons rfl (by first|rfl|(congr 1; done)|exact congrArg _ (by omega)|(simp; done)) ?_)) (by repeat (first|exact .nil|refine .keep (by first|rfl|assumption) ?_|refine .drop ?_|exact MSub.refl _))
end R41
end Go.Proofs

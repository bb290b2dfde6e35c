/- Rights: the holders of a sign, walked. -/
import Derived.Test.YtajnkdgbpffinaaGreatRgF
import Derived.Test.YtajnkdgbpffinaaGreatSrA
set_option maxRecDepth 100000
set_option maxHeartbeats 400000000
set_option linter.unusedSectionVars false
set_option linter.unusedVariables false
set_option linter.unusedSimpArgs false
namespace Go.Proofs
open Go.RowKit Go.Kin Go.Kin.Cl
namespace R41
theorem perm_tl {α : Type} {X G R : List α} : (X ++ (G ++ R)).Perm (R ++ (X ++ G)) := by
 rw [<- List.append_assoc]
 exact List.perm_append_comm
theorem gSl_ne {α : Type} {l : List α} {b cap : Nat} (h : l ≠ []) : gSl l b cap = .slice (some ⟨b, 0, none⟩) l.length cap := by cases l with | nil => exact absurd rfl h | cons x l => rfl
theorem gM_ne {α : Type} {f : α -> List Value} {T : TypeId} {l : List α} {b : Nat} {rest : List Value} (h : l ≠ []) : gM f T l b rest = [(b, .cells ⟨(l.map f).flatten ++ rest⟩ T (0, 0))] := by cases l with | nil => exact absurd rfl h | cons x l => rfl
theorem compact_mem (zs : List Int) (x : Int) : x ∈ Lib.compact zs ↔ x ∈ zs := by
 unfold Lib.compact Lib.compactUpTo
 constructor
 ·intro h
  obtain ⟨j, hj, rfl⟩ := List.mem_map.1 h
  have hl := List.mem_range.1 (List.mem_filter.1 hj).1
  rw [getElem!_pos zs.toArray j (by simpa using hl)]
  simp
 ·intro h
  obtain ⟨n, hn, e⟩ := List.mem_iff_getElem.1 h
  have key : ∀ m, ∀ (hm : m < zs.length), zs[m] = x -> ∃ j, j < zs.length /\ Lib.keeps zs.toArray j = true /\ zs.toArray[j]! = x := fun m => by
   induction m with
   | zero =>
    intro hm e
    refine ⟨0, hm, by simp [Lib.keeps], ?_⟩
    rw [getElem!_pos zs.toArray 0 (by simpa using hm)]; simpa using e
   | succ m ih =>
    intro hm e
    by_cases hp : zs[m]'(by omega) = x
    ·exact ih (by omega) hp
    ·refine ⟨m + 1, hm, ?_, ?_⟩
     ·simp only [Lib.keeps]
      rw [getElem!_pos zs.toArray (m + 1) (by simpa using hm), getElem!_pos zs.toArray (m + 1 - 1) (by simp; omega)]
      simp [e]
      exact fun h2 => hp h2.symm
     ·rw [getElem!_pos zs.toArray (m + 1) (by simpa using hm)]; simpa using e
  obtain ⟨j, h1, h2, h3⟩ := key n hn e
  exact List.mem_map.2 ⟨j, List.mem_filter.2 ⟨List.mem_range.2 h1, h2⟩, h3⟩
theorem compact_ne {zs : List Int} (h : zs ≠ []) : Lib.compact zs ≠ [] := by
 obtain ⟨x, l, rfl⟩ := List.exists_cons_of_ne_nil h
 exact List.ne_nil_of_mem ((compact_mem _ x).2 List.mem_cons_self)
theorem srtZ_nil : srtZ [] = [] := by unfold srtZ; simp
theorem compact_nil : Lib.compact ([] : List Int) = [] := rfl
theorem inE_rows (l : List Int) : ((l.map inE).flatten).length = l.length * 1 := by rw [flZ_eq, flZ_len, Nat.mul_one]
theorem srt_perm {a b : List Int} (h : a.Perm b) : srtZ a = srtZ b := by
 have h1 : (srtZ a).Perm (srtZ b) := (List.mergeSort_perm a _).trans (h.trans (List.mergeSort_perm b _).symm)
 have s1 := List.pairwise_mergeSort (le := fun x y : Int => decide (x <= y)) (fun a b c h1 h2 => by simp at *; omega) (fun a b => by simp; omega) a
 have s2 := List.pairwise_mergeSort (le := fun x y : Int => decide (x <= y)) (fun a b c h1 h2 => by simp at *; omega) (fun a b => by simp; omega) b
 exact h1.eq_of_pairwise (fun x y _ _ h3 h4 => by simp at h3 h4; omega) s1 s2
theorem srtZ_len (l : List Int) : (srtZ l).length = l.length := List.length_mergeSort ..
/-- of a sign, or of all -/
def ofB (sign : Int) (p : Int × Int) : Bool := decide (p.2 = 0) || decide (p.2 = sign + 1)
def hoS (S : List (Int × Int)) (sign : Int) (seen : List Nat) : List Int := ((seen.map fun j => S.getD j (0, 0)).filter (ofB sign)).map (·.1)
def hoF (S : List (Int × Int)) (sign : Int) : List Int := (S.filter (ofB sign)).map (·.1)
def hldL (S : List (Int × Int)) (sign : Int) : List Int := Lib.compact (srtZ (hoF S sign))
theorem range_getD (S : List (Int × Int)) : (List.range S.length).map (fun j => S.getD j (0, 0)) = S := by
 refine List.ext_getElem (by simp) fun i h1 h2 => ?_
 simp [List.getD_eq_getElem?_getD, List.getElem?_eq_getElem h2]
theorem hoS_perm {S : List (Int × Int)} {sign : Int} {seen : List Nat} (hn : seen.Nodup) (hl : ∀ j ∈ seen, j < S.length) (ha : ∀ j, j < S.length -> j ∈ seen) : (hoS S sign seen).Perm (hoF S sign) := by
 have h1 : seen.Perm (List.range S.length) := (List.perm_ext_iff_of_nodup hn List.nodup_range).2 fun j => by rw [List.mem_range]; exact ⟨hl j, ha j⟩
 have h2 := ((h1.map fun j => S.getD j (0, 0)).filter (ofB sign)).map (·.1)
 rw [range_getD] at h2
 exact h2
theorem hoS_snoc {S : List (Int × Int)} {sign : Int} {seen : List Nat} {j : Nat} {p : Int × Int} (h : S[j]? = some p) : hoS S sign (seen ++ [j]) = hoS S sign seen ++ (if ofB sign p then [p.1] else []) := by
 unfold hoS
 rw [List.map_append, List.filter_append, List.map_append]
 congr 1
 show (([S.getD j (0, 0)] : List (Int × Int)).filter _).map _ = _
 rw [show S.getD j (0, 0) = p by rw [List.getD_eq_getElem?_getD, h]; rfl]
 by_cases hp : ofB sign p <;> simp [hp]
theorem seen_le {n : Nat} {seen : List Nat} (h1 : seen.Nodup) (h2 : ∀ q ∈ seen, q < n) : seen.length <= n := by
 have hs1 : (List.range n).length = n := List.length_range
 have := h1.length_le_of_subset (l₂ := List.range n) (fun r hr => List.mem_range.2 (h2 r hr))
 omega
structure HoT where
 seen : List Nat
 b : Nat
 c : Nat
 r : List Value
theorem holders41_calls (S : List (Int × Int)) (bp : Nat) (sign : Int) (w : World) (hS : w.heap[bp]? = some (pmO S)) (hl : S.length <= 1000) (hs : 0 <= sign /\ sign <= 1048576) :
  Calls Tryz.prog 41 ⟨[.map (some bp), .int .i64 sign]⟩ w (FrQ [] (fun i : Nat × Nat × List Value => gSl (hldL S sign) i.1 i.2.1) (fun i => gM inE 3 (hldL S sign) i.1 i.2.2) w) := by
 have hsat := frQ_start (W := w) (pre := []) (by simp) fun p hp => by cases hp
 have hD : allBut w (List.map (·.1) ([] : List (Nat × Obj))) bp := ⟨lt_of_heap hS, by simp⟩
 refine fEn Tryz.func41 rfl Tryz.ntmps41 rfl rfl hsat ?_
 repeat ((fail_if_success refine c_probe (id := 1) ?_); (fail_if_success refine c_probe1 (id := 1) ?_); first|refine lVa rfl rfl (by first|exact pEv rfl|fail) ?_|refine lNi ?_|refine cRg ?_|refine cSq ?_|refine xTh ?_|fail)
 refine cSq ?_
 repeat ((fail_if_success refine c_probe (id := 2) ?_); (fail_if_success refine c_probe1 (id := 2) ?_); first|refine l_pmRange rfl rfl rfl rfl (.far hD hS) (fun br => ?_)|refine lVa rfl rfl (by first|exact pEv rfl|fail) ?_|refine lNi ?_|refine cRg ?_|refine cSq ?_|refine xTh ?_|refine cBl ?_|fail)
 refine c_loop (ι := HoT) (fun s => s.seen.Nodup /\ (∀ j ∈ s.seen, j < S.length) /\ gOK inE 1 (hoS S sign s.seen) s.c s.r) (fun s => [(1, .int .i64 sign), (4, gSl (hoS S sign s.seen) s.b s.c), (7, .pointer (some ⟨br, 0, none⟩))])
  (fun s => (br, itO bp S.length s.seen) :: gM inE 3 (hoS S sign s.seen) s.b s.r) (fun s => S.length - s.seen.length) ⟨[], 0, 0, []⟩ ⟨List.nodup_nil, fun j h => by simp at h, fun h => absurd rfl h⟩ (by repeat (first|exact .nil|refine .cons rfl (by first|rfl|(congr 1; done)|exact congrArg _ (by omega)|(simp; done)) ?_)) (by repeat (first|exact .nil|refine .keep (by first|rfl|assumption) ?_|refine .drop ?_|exact MSub.refl _)) ?_
 rintro ⟨seen, b, c, r⟩ ⟨hn, hlt, hgr⟩
 simp only at hn hlt hgr ⊢
 have hgr' := fun (_ : Unit) => hgr
 clear hgr
 refine cSq ?_
 refine cRg ?_
 refine l_pmNext (mem' := fun seen' => (br, itO bp S.length seen') :: gM inE 3 (hoS S sign seen) b r) rfl rfl rfl (.far hD hS) (fun s' => .head) (fun o => ?_)
 obtain ⟨o, ho⟩ := o
 cases o with
 | none =>
  simp only [nxPV, nxPS]
  have hperm := hoS_perm (sign := sign) hn hlt ho
  have hsl : (hoS S sign seen).length <= 1000 := by rw [hperm.length_eq]; unfold hoF; rw [List.length_map]; exact Nat.le_trans (List.length_filter_le _ _) hl
  have hsrt : srtZ (hoS S sign seen) = srtZ (hoF S sign) := srt_perm hperm
  obtain ⟨L, hL⟩ : ∃ L, hoS S sign seen = L := ⟨_, rfl⟩
  have hfin : hldL S sign = Lib.compact (srtZ L) := by unfold hldL; rw [<- hsrt, hL]
  rw [hL] at hgr' hsl ⊢
  rw [hfin]
  by_cases hne : L = []
  ·subst hne
   rw [srtZ_nil, compact_nil]
   repeat ((fail_if_success refine c_probe (id := 6) ?_); (fail_if_success refine c_probe1 (id := 6) ?_); first|refine lVa rfl rfl (by first|exact pEv rfl|fail) ?_|refine lNi ?_|refine cSq ?_|refine xTh ?_|refine c_false rfl ?_|refine c_exit ?_|refine xTe ?_|refine xBs ?_|fail)
   refine c_drop (.drop (.refl _)) ?_
   refine cSq ?_
   repeat ((fail_if_success refine c_probe (id := 7) ?_); (fail_if_success refine c_probe1 (id := 7) ?_); first|refine r_call rfl rfl rfl (fun W hW => sort59_none none 0 W) ?_|refine lVa rfl rfl (by first|exact pEv rfl|fail) ?_|refine lNi ?_|refine cRg ?_|refine xTh ?_|fail)
   refine cSq ?_
   repeat ((fail_if_success refine c_probe (id := 8) ?_); (fail_if_success refine c_probe1 (id := 8) ?_); first|refine r_call rfl rfl rfl (fun W hW => compact60_none none 0 W) ?_|refine lVa rfl rfl (by first|exact pEv rfl|fail) ?_|refine lNi ?_|refine cRg ?_|refine xTh ?_|refine c_ret ?_|fail)
   skip
   exact x_ret rfl rfl (by repeat constructor) rfl (fun W hW => ⟨(0, 0, []), rfl, hW⟩)
  have hcn : Lib.compact (srtZ L) ≠ [] := compact_ne fun e => hne (List.length_eq_zero_iff.1 (by rw [<- srtZ_len, e]; rfl))
  have hcap := (hgr' () hne).le
  have hcp := fun (W : World) hb => compact60_calls (srtZ L) b c r W hb (by rw [srtZ_len]; exact hsl) (by rw [srtZ_len]; exact hcap)
  rw [srtZ_len] at hcp
  rw [gSl_ne hne, gM_ne hne, flZ_eq]
  clear hgr' hcap
  repeat ((fail_if_success refine c_probe (id := 6) ?_); (fail_if_success refine c_probe1 (id := 6) ?_); first|refine lVa rfl rfl (by first|exact pEv rfl|fail) ?_|refine lNi ?_|refine cSq ?_|refine xTh ?_|refine c_false rfl ?_|refine c_exit ?_|refine xTe ?_|refine xBs ?_|fail)
  refine c_drop (.drop (.refl _)) ?_
  refine cSq ?_
  repeat ((fail_if_success refine c_probe (id := 7) ?_); (fail_if_success refine c_probe1 (id := 7) ?_); first|refine r_callF rfl rfl rfl (.refl _) (fun W hW _ hp => sort59_calls L b c r W (hp _ List.mem_cons_self) (by omega)) (fun _ => ?_)|refine lVa rfl rfl (by first|exact pEv rfl|fail) ?_|refine lNi ?_|refine cRg ?_|refine xTh ?_|fail)
  refine cSq ?_
  repeat ((fail_if_success refine c_probe (id := 8) ?_); (fail_if_success refine c_probe1 (id := 8) ?_); first|refine r_callF rfl rfl rfl (.refl _) (fun W hW _ hp => hcp W (hp _ List.mem_cons_self)) (fun _ => ?_)|refine lVa rfl rfl (by first|exact pEv rfl|fail) ?_|refine lNi ?_|refine cRg ?_|refine xTh ?_|refine c_ret ?_|fail)
  skip
  exact x_ret rfl rfl (by repeat constructor) rfl (fun W hW => ⟨(b, c, List.replicate (L.length - (Lib.compact (srtZ L)).length) (.int .i64 0) ++ r), by simp only [gSl_ne hcn], by simp only [gM_ne hcn, flZ_eq]; exact hW⟩)
 | some j =>
  simp only [nxPV, nxPS]
  have hj : j < S.length := ho.1
  obtain ⟨p, hp⟩ : ∃ p, S[j]? = some p := ⟨_, List.getElem?_eq_getElem hj⟩
  have hpd : S.getD j (0, 0) = p := by rw [List.getD_eq_getElem?_getD, hp]; rfl
  rw [hpd]
  have hsn := hoS_snoc (sign := sign) (seen := seen) hp
  have hnd : (seen ++ [j]).Nodup := List.nodup_append.2 ⟨hn, by simp, fun a ha b hb e => ho.2 (by rw [List.mem_singleton.1 hb] at e; exact e ▸ ha)⟩
  have hlt' : ∀ i ∈ seen ++ [j], i < S.length := fun i hi => by
   rcases List.mem_append.1 hi with h | h
   ·exact hlt i h
   ·rw [List.mem_singleton.1 h]; exact hj
  have hlen : (seen ++ [j]).length = seen.length + 1 := by simp
  have hle : seen.length < S.length := by
   have h1 := seen_le hnd hlt'
   omega
  have hL1 : (hoS S sign seen).length <= 1000 := by
   unfold hoS
   rw [List.length_map]
   exact Nat.le_trans (List.length_filter_le _ _) (by rw [List.length_map]; omega)
  obtain ⟨L, hL⟩ : ∃ L, hoS S sign seen = L := ⟨_, rfl⟩
  rw [hL] at hgr' hsn hL1 ⊢
  repeat ((fail_if_success refine c_probe (id := 3) ?_); (fail_if_success refine c_probe1 (id := 3) ?_); first|refine lVa rfl rfl (by first|exact pEv rfl|fail) ?_|refine lNi ?_|refine cSq ?_|refine xTh ?_|refine c_true rfl ?_|refine cBl ?_|refine cSk ?_|fail)
  refine cSq ?_
  repeat ((fail_if_success refine c_probe (id := 4) ?_); (fail_if_success refine c_probe1 (id := 4) ?_); first|refine lVa rfl rfl (v_pmEntry rfl (.far hD hS) (by repeat constructor) hp) ?_|refine lVa rfl rfl (by first|exact pEv rfl|fail) ?_|refine lNi ?_|refine cRg ?_|refine xTh ?_|refine r_alloc rfl rfl rfl (by first|exact aggL|fail) (fun _ => ?_)|refine rSt rfl rfl rfl rfl rfl rfl rfl (by repeat constructor) (by rfl) ?_|fail)
  by_cases hz : p.2 = 0
  ·have hof : ofB sign p = true := by unfold ofB; rw [decide_eq_true hz]; rfl
   have hsn' : hoS S sign (seen ++ [j]) = L ++ [p.1] := by rw [hsn, hof]; rfl
   repeat (first|refine lVa rfl rfl (by first|exact pEv rfl|exact vLd rfl (by repeat constructor) rfl (by rfl)|fail) ?_|refine lNi ?_|refine cRg ?_|refine cSq ?_|refine xTh ?_|refine l_skip rfl rfl ?_|refine r_buildSlice rfl rfl rfl rfl rfl rfl (by rfl) (fun _ => ?_)|refine c_true rfl ?_|refine l_dec_t rfl rfl rfl rfl rfl (by first|omega|fail) ?_|fail)
   refine r_appendZ (f := inE) (e := 3) (sz := 1) (xs := L) (ys := [p.1]) (m := 1) rfl rfl rfl rfl rfl rfl rfl (.inr ⟨_, 0, rfl, news_own (by repeat constructor)⟩) (perm_tl (X := [_, _, _]) (G := [])) (hgr' ()) inE_rows rfl rfl (by omega) (by unfold maxLen; omega) (fun b8 c8 r8 hg8 => ?_)
   have hg8' := fun (_ : Unit) => hg8
   clear hg8
   refine l_perm List.perm_append_comm ?_
   simp only [List.cons_append, List.nil_append, List.append_nil]
   repeat ((fail_if_success refine c_probe (id := 7) ?_); (fail_if_success refine c_probe1 (id := 7) ?_); first|refine lVa rfl rfl (by first|exact pEv rfl|fail) ?_|refine lNi ?_|refine x_block ?_|fail)
   refine x_back ⟨seen ++ [j], b8, c8, r8⟩ ⟨hnd, hlt', by rw [hsn']; exact hg8' ()⟩ (by simp only; omega) ?_ ?_
   ·simp only; rw [hsn']; exact (by repeat (first|exact .nil|refine .cons rfl (by first|rfl|(congr 1; done)|exact congrArg _ (by omega)|(simp; done)) ?_))
   ·simp only; rw [hsn']; exact (by repeat (first|exact .nil|refine .keep (by first|rfl|assumption) ?_|refine .drop ?_|exact MSub.refl _))
  by_cases hz2 : p.2 = sign + 1
  ·have hof : ofB sign p = true := by unfold ofB; rw [decide_eq_true hz2]; simp
   have hsn' : hoS S sign (seen ++ [j]) = L ++ [p.1] := by rw [hsn, hof]; rfl
   repeat (first|refine lVa rfl rfl (by first|exact v_add rfl rfl (by omega) (by omega)|exact pEv rfl|exact vLd rfl (by repeat constructor) rfl (by rfl)|fail) ?_|refine lNi ?_|refine cRg ?_|refine cSq ?_|refine xTh ?_|refine r_buildSlice rfl rfl rfl rfl rfl rfl (by rfl) (fun _ => ?_)|refine c_dec_t rfl (by first|omega|fail) ?_|refine l_dec_f rfl rfl rfl rfl rfl (by first|omega|fail) ?_|fail)
   refine r_appendZ (f := inE) (e := 3) (sz := 1) (xs := L) (ys := [p.1]) (m := 1) rfl rfl rfl rfl rfl rfl rfl (.inr ⟨_, 0, rfl, news_own (by repeat constructor)⟩) (perm_tl (X := [_, _, _]) (G := [])) (hgr' ()) inE_rows rfl rfl (by omega) (by unfold maxLen; omega) (fun b8 c8 r8 hg8 => ?_)
   have hg8' := fun (_ : Unit) => hg8
   clear hg8
   refine l_perm List.perm_append_comm ?_
   simp only [List.cons_append, List.nil_append, List.append_nil]
   repeat ((fail_if_success refine c_probe (id := 7) ?_); (fail_if_success refine c_probe1 (id := 7) ?_); first|refine lVa rfl rfl (by first|exact pEv rfl|fail) ?_|refine lNi ?_|refine x_block ?_|fail)
   refine x_back ⟨seen ++ [j], b8, c8, r8⟩ ⟨hnd, hlt', by rw [hsn']; exact hg8' ()⟩ (by simp only; omega) ?_ ?_
   ·simp only; rw [hsn']; exact (by repeat (first|exact .nil|refine .cons rfl (by first|rfl|(congr 1; done)|exact congrArg _ (by omega)|(simp; done)) ?_))
   ·simp only; rw [hsn']; exact (by repeat (first|exact .nil|refine .keep (by first|rfl|assumption) ?_|refine .drop ?_|exact MSub.refl _))
  have hof : ofB sign p = false := by unfold ofB; rw [decide_eq_false hz, decide_eq_false hz2]; rfl
  have hsn' : hoS S sign (seen ++ [j]) = L := by rw [hsn, hof]; simp
  repeat ((fail_if_success refine c_probe (id := 6) ?_); (fail_if_success refine c_probe1 (id := 6) ?_); first|refine lVa rfl rfl (by first|exact v_add rfl rfl (by omega) (by omega)|exact pEv rfl|exact vLd rfl (by repeat constructor) rfl (by rfl)|fail) ?_|refine lNi ?_|refine cRg ?_|refine cSq ?_|refine xTh ?_|refine c_dec_f rfl (by first|omega|fail) ?_|refine cSk ?_|refine x_block ?_|refine l_dec_f rfl rfl rfl rfl rfl (by first|omega|fail) ?_|fail)
  refine x_back ⟨seen ++ [j], b, c, r⟩ ⟨hnd, hlt', by rw [hsn']; exact hgr' ()⟩ (by simp only; omega) ?_ ?_
  ·simp only; rw [hsn']; exact (by repeat (first|exact .nil|refine .cons rfl (by first|rfl|(congr 1; done)|exact congrArg _ (by omega)|(simp; done)) ?_))
  ·simp only; rw [hsn']; exact (by repeat (first|exact .nil|refine .keep (by first|rfl|assumption) ?_|refine .drop ?_|exact MSub.refl _))
end R41
end Go.Proofs

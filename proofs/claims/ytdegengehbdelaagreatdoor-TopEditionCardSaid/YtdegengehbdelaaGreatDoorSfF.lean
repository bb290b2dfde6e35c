/- Editions: what the states of a set of several witnesses cost, walked. -/
import Derived.Test.YtdegengehbdelaaGreatDoorSfD
set_option maxRecDepth 100000
set_option maxHeartbeats 400000000
set_option linter.unusedSectionVars false
set_option linter.unusedVariables false
set_option linter.unusedSimpArgs false
namespace Go.Proofs
open Go.RowKit Go.Kin Go.Kin.Se Go.Kin.Cl
namespace R41
/-- what has been added when p of the parts are done -/
def accF (f g : Int -> Nat) (p : Nat) (s : Int) : Nat := if p = 0 then 0 else if p = 1 then f s else f s + g s
theorem rmin_take {S : List Int} {own : Nat -> Int} {t : Tr} {s q : Int} {k : Nat} (h : S[k]? = some q) :
  ((S.take (k + 1)).map fun q => stp s q + rcF S own t q).foldl min nev = min (((S.take k).map fun q => stp s q + rcF S own t q).foldl min nev) (stp s q + rcF S own t q) := by
 rw [List.take_add_one, h]
 show ((S.take k ++ [q]).map _).foldl min nev = _
 rw [List.map_append, List.foldl_append]; rfl
theorem rnode_calls (E : RC) (hE : ROK E) (l r : Tr) (w : World) (hB : REnv E w) (m : Nat) (hm : (Tr.nd l r).st = m) (hs : singleB m = false) (hp : prt E.cl m = some (l.st, r.st)) (hmem : m ∈ E.cl) (hm0 : 0 < m) (hm32 : m < 32) (hf : Fit E.S E.own (.nd l r)) (zl : l.sz <= 1000) (zr : r.sz <= 1000)
  (hl : ∀ W, REnv E W -> Calls Tryz.prog 54 ⟨.int .i64 (l.st : Int) :: E.env⟩ W (RtQ (E.S.map (rcF E.S E.own l)) W)) (hr : ∀ W, REnv E W -> Calls Tryz.prog 54 ⟨.int .i64 (r.st : Int) :: E.env⟩ W (RtQ (E.S.map (rcF E.S E.own r)) W)) :
  Calls Tryz.prog 54 ⟨.int .i64 (m : Int) :: E.env⟩ w (RtQ (E.S.map (rcF E.S E.own (.nd l r))) w) := by
 obtain ⟨n5, jlt, j3, hlen, cll, sl, s0, ck⟩ := hE
 have x1 := ext1o hB.h1
 have x2 := ext1o hB.h2
 have x4 := ext1o hB.h4
 have x5 := ext1o hB.h5
 have hst := hB.st
 have hpt := fun W (hW : Below w.heap.size w W) => parts55_calls E.rows.length E.Ac E.capc E.cl m l.st r.st W (hB.ac.later hW) n5 ck cll (by omega) hm0 hmem hp
 have hnd : ∀ s, rcF E.S E.own (.nd l r) s = rmin E.S E.own l s + rmin E.S E.own r s := fun s => (rc_node hf zl zr s).symm
 have hsn : ∀ m, m < 32 -> singleB m = false -> 0 < m -> ∃ c, bits .and .i64 (m : Int) ((m : Int) - 1) = (c : Nat) /\ c ≠ 0 := by
  intro m hm hs h0
  refine ⟨m &&& (m - 1), ?_, ?_⟩
  ·rw [sub_one h0]; exact and_small m (by omega) (m - 1) (by omega)
  ·intro e
   unfold singleB at hs
   rw [decide_eq_true h0, decide_eq_true e] at hs
   cases hs
 obtain ⟨c0, hc0, hcne⟩ := hsn m hm32 hs hm0
 obtain ⟨part, hpart⟩ : ∃ part : Nat -> Tr, part = fun p => if p = 0 then l else r := ⟨_, rfl⟩
 have hp0 : part 0 = l := by rw [hpart]; rfl
 have hp1 : part 1 = r := by rw [hpart]; rfl
 have hcall : ∀ p, p < 2 -> ∀ W, REnv E W -> Calls Tryz.prog 54 ⟨.int .i64 ((part p).st : Int) :: E.env⟩ W (RtQ (E.S.map (rcF E.S E.own (part p))) W) := fun p h W hW => by
  obtain rfl | rfl : p = 0 ∨ p = 1 := by omega
  ·rw [hp0]; exact hl W hW
  ·rw [hp1]; exact hr W hW
 have hfp : ∀ p, p < 2 -> Fit E.S E.own (part p) /\ (part p).sz <= 1000 := fun p h => by
  obtain rfl | rfl : p = 0 ∨ p = 1 := by omega
  ·rw [hp0]; exact ⟨hf.l, zl⟩
  ·rw [hp1]; exact ⟨hf.r, zr⟩
 have hacc : ∀ p, p < 2 -> ∀ s, accF (rmin E.S E.own l) (rmin E.S E.own r) (p + 1) s = accF (rmin E.S E.own l) (rmin E.S E.own r) p s + rmin E.S E.own (part p) s := fun p h s => by
  obtain rfl | rfl : p = 0 ∨ p = 1 := by omega
  ·rw [hp0]; exact (Nat.zero_add _).symm
  ·rw [hp1]; rfl
 have hab : ∀ p s, p <= 2 -> accF (rmin E.S E.own l) (rmin E.S E.own r) p s <= 2147483648 := fun p s _ => by
  have h1 := rmin_le (S := E.S) (own := E.own) (t := l) s
  have h2 := rmin_le (S := E.S) (own := E.own) (t := r) s
  unfold nev at h1 h2
  unfold accF
  split
  ·omega
  ·split <;> omega
 have hfin : E.S.map (rcF E.S E.own (.nd l r)) = E.S.map (accF (rmin E.S E.own l) (rmin E.S E.own r) 2) := List.map_congr_left fun s _ => hnd s
 rw [hfin]
 obtain ⟨acc, hac⟩ : ∃ acc, accF (rmin E.S E.own l) (rmin E.S E.own r) = acc := ⟨_, rfl⟩
 have hacc0 : acc 0 = fun _ => 0 := by rw [<- hac]; rfl
 rw [hac] at hacc hab ⊢
 have hrt := @rmin_take E.S E.own
 have hrm : ∀ p s, rmin E.S E.own (part p) s = ((E.S.take E.S.length).map fun q => stp s q + rcF E.S E.own (part p) q).foldl min nev := fun p s => by rw [List.take_length]; rfl
 have hrl : ∀ p, p < 2 -> ∀ q, rcF E.S E.own (part p) q <= nev := fun p h q => rcF_le (hfp p h).1 (hfp p h).2 q
 have hl0 : (part 0).st = l.st := by rw [hp0]
 have hr0 : (part 1).st = r.st := by rw [hp1]
 rw [<- hl0, <- hr0] at hpt
 clear hl hr hfin hnd hac hpart hp0 hp1 hfp hf zl zr hm hp
 obtain ⟨own, hown⟩ : ∃ own, E.own = own := ⟨_, rfl⟩
 rw [hown] at hcall hacc hrt hrm hrl
 obtain ⟨S, hS⟩ : ∃ S, E.S = S := ⟨_, rfl⟩
 rw [hS] at x1 hst hcall hacc hrt hrm hrl sl s0 ⊢
 have hcall := fun (p : Nat) (h : p < 2) (W : World) (hW : Below w.heap.size w W) => hcall p h W (hB.later hW)
 unfold RC.env ptrV at x5 hcall ⊢
 have hnv : nev = 1073741824 := rfl
 refine fEn Tryz.func54 rfl Tryz.ntmps54 rfl rfl (sWn w) ?_
 repeat (first|refine lVa rfl rfl (by first|exact v_sub rfl rfl (by omega) (by omega)|exact pEv rfl|exact vL0 rfl (by assumption) rfl (by rfl)|fail) ?_|refine lNi ?_|refine cRg ?_|refine cSq ?_|refine xTh ?_|refine r_make rfl rfl rfl rfl rfl rfl (by first|rfl|fail) (by omega) (by omega) rfl rfl (by first|exact flat_int|fail) (fun _ => ?_)|fail)
 rename_i bo
 have hz : (ivec S.length fun _ => 0) = flN (outP (acc 0) (acc 1) S 0) := by rw [outP_0, hacc0, List.map_const']; exact ivec_zero _
 rw [hz]
 repeat (first|refine lVa rfl rfl (v_andA rfl rfl hc0) ?_|refine lVa rfl rfl (by first|exact pEv rfl|exact vL0 rfl (by assumption) rfl (by rfl)|fail) ?_|refine lNi ?_|refine cRg ?_|refine cSq ?_|refine xTh ?_|refine c_dec_f rfl (by first|omega|fail) ?_|refine cSk ?_|fail)
 refine r_call rfl rfl rfl (fun W hW => hpt W hW.below) ?_
 repeat (first|refine lVa rfl rfl (by first|exact pEv rfl|fail) ?_|refine lNi ?_|refine cRg ?_|refine cSq ?_|refine xTh ?_|refine r_buildSlice rfl rfl rfl rfl rfl rfl (by rfl) (fun _ => ?_)|refine cBl ?_|fail)
 rename_i b75
 obtain ⟨cs, hcs⟩ : ∃ cs, [Value.int .i64 ((part 0).st : Int), Value.int .i64 ((part 1).st : Int)] = cs := ⟨_, rfl⟩
 have hld : ∀ p, p < 2 -> cs[p]? = some (.int .i64 ((part p).st : Int)) := fun p h => by
  obtain rfl | rfl : p = 0 ∨ p = 1 := by omega
  ·rw [<- hcs]; rfl
  ·rw [<- hcs]; rfl
 have hcl : cs.length = 2 := by rw [<- hcs]; rfl
 refine c_loop (ι := Nat) (fun p => p <= 2) (fun p => [(1, .pointer (some ⟨E.b1, 0, none⟩)), (5, .pointer (some ⟨E.b5, 0, none⟩)), (8, .slice (some ⟨bo, 0, none⟩) S.length S.length), (75, .slice (some ⟨b75, 0, none⟩) 2 2), (76, .int .i64 2), (77, .int .i64 p)])
  (fun p => [(b75, .cells ⟨cs⟩ 3 (0, 0)), (bo, .cells ⟨flN (S.map (acc p))⟩ 3 (0, 0))]) (fun p => 2 - p) 0 (by omega) (by repeat (first|exact .nil|refine .cons rfl (by first|rfl|(congr 1; done)|exact congrArg _ (by omega)|(simp; done)) ?_)) (by rw [<- hcs]; exact (by repeat (first|exact .nil|refine .keep (by first|rfl|assumption) ?_|refine .drop ?_|exact MSub.refl _))) ?_
 intro p hp
 by_cases hlt : p < 2
 rotate_left
 ·have hpe : p = 2 := by omega
  subst hpe
  repeat (first|refine lVa rfl rfl (by first|exact pEv rfl|fail) ?_|refine lNi ?_|refine cRg ?_|refine cSq ?_|refine xTh ?_|refine c_false rfl ?_|refine c_ret ?_|refine c_exit ?_|refine xTe ?_|refine xBs ?_|fail)
  refine x_ret rfl rfl (by repeat constructor) rfl (fun W hW => ⟨⟨(bo, S.length, []), ?_⟩, ?_, ?_⟩)
  ·exact ⟨by rw [nE_len, List.length_map], by rw [List.append_nil, nE_len, List.length_map, Nat.mul_one], by rw [List.length_map]; exact Nat.le_refl _, by show S.length <= maxLen; unfold maxLen; omega⟩
  ·show Ending.returned _ = Ending.returned (.slice (some ⟨bo, 0, none⟩) (S.map (acc 2)).length S.length)
   rw [List.length_map]
  ·have := frQ_base (hW.mono (List.sublist_cons_self _ _))
   simp only [List.append_nil]
   exact this
 have hldp := hld p hlt
 have hcp := hcall p hlt
 have hrlp := hrl p hlt
 have haccp := hacc p hlt
 have habp := fun s => hab p s (by omega)
 have hrtp := fun s q k h => @hrt (part p) s q k h
 have hrmp := hrm p
 clear hld hcall hrl hacc hrt hrm
 obtain ⟨rc, hrc⟩ : ∃ rc, rcF S own (part p) = rc := ⟨_, rfl⟩
 rw [hrc] at hcp hrlp hrtp hrmp
 obtain ⟨rm, hrme⟩ : ∃ rm, rmin S own (part p) = rm := ⟨_, rfl⟩
 rw [hrme] at haccp hrmp
 obtain ⟨pst, hpst⟩ : ∃ x, (part p).st = x := ⟨_, rfl⟩
 rw [hpst] at hldp hcp
 repeat (first|refine lVa rfl rfl (by first|exact pEv rfl|exact vL0 rfl (by assumption) rfl (by rfl)|exact v_index rfl rfl rfl rfl (by omega) (by omega) (by with_reducible first|exact idx1 _|fail)|exact v_load_at rfl (by repeat constructor) rfl rfl (by first|assumption|fail)|fail) ?_|refine lNi ?_|refine cRg ?_|refine cSq ?_|refine xTh ?_|refine c_dec_t rfl (by first|omega|fail) ?_|refine cBl ?_|refine cSk ?_|fail)
 refine r_callvF (pre := []) rfl rfl rfl rfl rfl (.refl _) (fun W hW _ _ => hcp W hW.below) ?_
 rintro ⟨⟨bb, cb, rb⟩, hgb⟩
 simp only [List.length_map] at hgb ⊢
 have hgb' := fun (_ : Unit) => hgb
 clear hgb
 repeat (first|refine lVa rfl rfl (by first|exact pEv rfl|exact vL0 rfl (by assumption) rfl (by rfl)|fail) ?_|refine lNi ?_|refine cRg ?_|refine cSq ?_|refine xTh ?_|refine cBl ?_|fail)
 refine c_loop (ι := Nat) (fun i => i <= S.length) (fun i => [(1, .pointer (some ⟨E.b1, 0, none⟩)), (5, .pointer (some ⟨E.b5, 0, none⟩)), (8, .slice (some ⟨bo, 0, none⟩) S.length S.length), (75, .slice (some ⟨b75, 0, none⟩) 2 2), (76, .int .i64 2), (77, .int .i64 p), (18, .slice (some ⟨bb, 0, none⟩) S.length cb), (84, .slice E.As S.length E.caps), (85, .int .i64 S.length), (86, .int .i64 i)])
  (fun i => [(bb, .cells ⟨flN (S.map rc) ++ rb⟩ 3 (0, 0)), (b75, .cells ⟨cs⟩ 3 (0, 0)), (bo, .cells ⟨flN (outP (acc p) (acc (p + 1)) S i)⟩ 3 (0, 0))]) (fun i => S.length - i) 0 (Nat.zero_le _) (by repeat (first|exact .nil|refine .cons rfl (by first|rfl|(congr 1; done)|exact congrArg _ (by omega)|(simp; done)) ?_)) (by repeat (first|exact .nil|refine .keep (by first|rfl|assumption) ?_|refine .drop ?_|exact MSub.refl _)) ?_
 intro i hi
 by_cases hli : i < S.length
 rotate_left
 ·have hie : i = S.length := by omega
  subst hie
  rw [outP_all]
  repeat (first|refine lVa rfl rfl (by first|exact v_add rfl rfl (by omega) (by omega)|exact pEv rfl|fail) ?_|refine lNi ?_|refine cRg ?_|refine cSq ?_|refine xTh ?_|refine c_dec_f rfl (by first|omega|fail) ?_|refine c_exit ?_|refine xTe ?_|refine x_block ?_|refine xBs ?_|fail)
  exact x_back (p + 1) (by omega) (by omega) (by repeat (first|exact .nil|refine .cons rfl (by first|rfl|(congr 1; done)|exact congrArg _ (by omega)|(simp; done)) ?_)) (by repeat (first|exact .nil|refine .keep (by first|rfl|assumption) ?_|refine .drop ?_|exact MSub.refl _))
 obtain ⟨s, hs⟩ : ∃ s, S[i]? = some s := ⟨_, List.getElem?_eq_getElem hli⟩
 obtain ⟨bs, os, hAs, hcs'⟩ := hst i (inE s) (by rw [List.getElem?_map, hs]; rfl)
 have y3 := ext_of hcs'
 rw [Nat.mul_one] at y3
 rw [hAs]
 rw [hAs] at x1
 repeat (first|refine lVa rfl rfl (by first|exact pEv rfl|exact vL0 rfl (by assumption) rfl (by rfl)|exact v_index rfl rfl rfl rfl (by omega) (by omega) (by with_reducible first|exact idx2 _ _|fail)|fail) ?_|refine lNi ?_|refine cRg ?_|refine cSq ?_|refine xTh ?_|refine c_dec_t rfl (by first|omega|fail) ?_|refine cBl ?_|refine cSk ?_|fail)
 refine c_loop (ι := Nat) (fun k => k <= S.length) (fun k => [(1, .pointer (some ⟨E.b1, 0, none⟩)), (5, .pointer (some ⟨E.b5, 0, none⟩)), (8, .slice (some ⟨bo, 0, none⟩) S.length S.length), (75, .slice (some ⟨b75, 0, none⟩) 2 2), (76, .int .i64 2), (77, .int .i64 p), (18, .slice (some ⟨bb, 0, none⟩) S.length cb), (84, .slice (some ⟨bs, os, none⟩) S.length E.caps), (85, .int .i64 S.length), (86, .int .i64 i), (19, .int .i64 i), (20, .int .i64 s),
   (21, .int .i64 (((S.take k).map fun q => stp s q + rc q).foldl min nev : Nat)), (91, .slice (some ⟨bs, os, none⟩) S.length E.caps), (92, .int .i64 S.length), (93, .int .i64 k)])
  (fun _ => [(bb, .cells ⟨flN (S.map rc) ++ rb⟩ 3 (0, 0)), (b75, .cells ⟨cs⟩ 3 (0, 0)), (bo, .cells ⟨flN (outP (acc p) (acc (p + 1)) S i)⟩ 3 (0, 0))]) (fun k => S.length - k) 0 (Nat.zero_le _) (by repeat (first|exact .nil|refine .cons rfl (by first|rfl|(congr 1; done)|exact congrArg _ (by omega)|(simp; done)) ?_)) (by repeat (first|exact .nil|refine .keep (by first|rfl|assumption) ?_|refine .drop ?_|exact MSub.refl _)) ?_
 intro k hk
 have hbk := (fmin_spec ((S.take k).map fun q => stp s q + rc q) nev).1.1
 by_cases hlk : k < S.length
 ·obtain ⟨q, hq⟩ : ∃ q, S[k]? = some q := ⟨_, List.getElem?_eq_getElem hlk⟩
  obtain ⟨_, _, e2, hcq⟩ := hst k (inE q) (by rw [List.getElem?_map, hq]; rfl)
  rw [hAs] at e2
  cases e2
  have y4 := ext_of hcq
  rw [Nat.mul_one] at y4
  have hbe : (flN (S.map rc) ++ rb)[k]? = some (.int .i64 (rc q : Nat)) := flN_get (by rw [List.getElem?_map, hq]; rfl) rb
  have hrq := hrlp q
  have hsq := stp_le s q
  have hnx := hrtp s q k hq
  obtain ⟨z, hz⟩ : ∃ z, ((S.take k).map fun q => stp s q + rc q).foldl min nev = z := ⟨_, rfl⟩
  rw [hz] at hnx hbk ⊢
  rw [hnv] at hrq hbk
  obtain ⟨u, hu⟩ : ∃ u, stp s q = u := ⟨_, rfl⟩
  have hpc := price56_calls s q
  rw [hu] at hpc hsq hnx
  obtain ⟨v, hv⟩ : ∃ v, rc q = v := ⟨_, rfl⟩
  rw [hv] at hrq hnx hbe
  repeat (first|refine q_call rfl rfl rfl (fun W _ => hpc W) ?_|refine lVa rfl rfl (by first|exact v_add rfl rfl (by omega) (by omega)|exact pEv rfl|exact vL0 rfl (by assumption) rfl (by rfl)|exact v_index rfl rfl rfl rfl (by omega) (by omega) (by with_reducible first|exact idx2 _ _|fail)|fail) ?_|refine lNi ?_|refine cRg ?_|refine cSq ?_|refine xTh ?_|refine c_dec_t rfl (by first|omega|fail) ?_|refine cBl ?_|refine cSk ?_|refine x_block ?_|refine c_reads rfl (by decide +kernel) ?_|refine q_val rfl rfl (by first|exact v_add rfl rfl (by omega) (by omega)|exact pEv rfl|exact v_index rfl rfl rfl rfl (by omega) (by omega) (by with_reducible first|exact idx1 _|fail)|exact v_load_at rfl (by repeat constructor) rfl rfl (by first|assumption|fail)|fail) ?_|refine q_nil ?_|fail)
  have hmc : min (z : Int) ((u : Int) + (v : Int)) = ((min z (u + v) : Nat) : Int) := by omega
  rw [hmc]
  refine x_back (k + 1) hlk (by omega) ?_ (by repeat (first|exact .nil|refine .keep (by first|rfl|assumption) ?_|refine .drop ?_|exact MSub.refl _))
  simp only [hnx]
  exact (by repeat (first|exact .nil|refine .cons rfl (by first|rfl|(congr 1; done)|exact congrArg _ (by omega)|(simp; done)) ?_))
 ·have hke : k = S.length := by omega
  subst hke
  rw [<- hrmp] at hbk ⊢
  have hset := outP_set (f := acc p) (g := acc (p + 1)) hs
  have hget := outP_get (f := acc p) (g := acc (p + 1)) hs
  have hlen' := outP_len (f := acc p) (g := acc (p + 1)) (S := S) (i := i)
  have hg2 := flN_get hget []
  rw [List.append_nil] at hg2
  have hst2 : (flN (outP (acc p) (acc (p + 1)) S i)).set i (.int .i64 (acc (p + 1) s : Nat)) = flN (outP (acc p) (acc (p + 1)) S (i + 1)) := by
   have := flN_set (l := outP (acc p) (acc (p + 1)) S i) (i := i) (x := acc (p + 1) s) (by omega) []
   rw [List.append_nil, List.append_nil, hset] at this
   exact this
  have hsum := haccp s
  have hab0 := habp s
  rw [hnv] at hbk
  obtain ⟨u, hu⟩ : ∃ u, acc p s = u := ⟨_, rfl⟩
  obtain ⟨v, hv⟩ : ∃ v, rm s = v := ⟨_, rfl⟩
  rw [hv] at hbk hsum ⊢
  rw [hu] at hab0 hsum hg2
  rw [hsum] at hst2
  have e0 : ((u : Int) + (v : Int)) = ((u + v : Nat) : Int) := by omega
  repeat (first|refine lVa rfl rfl (by first|exact v_add rfl rfl (by omega) (by omega)|exact pEv rfl|exact v_index rfl rfl rfl rfl (by omega) (by omega) (by with_reducible first|exact idx1 _|fail)|exact v_load_at rfl (by repeat constructor) rfl rfl (by first|assumption|fail)|fail) ?_|refine lNi ?_|refine cRg ?_|refine cSq ?_|refine xTh ?_|refine c_dec_f rfl (by first|omega|fail) ?_|refine c_exit ?_|refine xTe ?_|refine xBs ?_|fail)
  rw [e0]
  refine r_store_at rfl rfl rfl rfl rfl rfl (by repeat constructor) (by rw [flN_len, hlen']; omega) hst2 ?_
  repeat (first|refine lVa rfl rfl (by first|exact v_add rfl rfl (by omega) (by omega)|exact pEv rfl|fail) ?_|refine lNi ?_|refine cRg ?_|refine xTh ?_|refine x_block ?_|fail)
  exact x_back (i + 1) hli (by omega) (by repeat (first|exact .nil|refine .cons rfl (by first|rfl|(congr 1; done)|exact congrArg _ (by omega)|(simp; done)) ?_)) (by repeat (first|exact .nil|refine .keep (by first|rfl|assumption) ?_|refine .drop ?_|exact MSub.refl _))
theorem prtL_own {cl : List Nat} {c : Nat} : ∀ {f a : Nat} {p : Nat × Nat}, prtL cl c f a = some p -> ownB cl p.1 = true /\ ownB cl p.2 = true
 | 0, _, _, h => by cases h
 | f + 1, a, p, h => by
  unfold prtL at h
  split at h
  ·cases h
  ·split at h
   ·rename_i hc
    rw [Bool.and_eq_true, Bool.and_eq_true] at hc
    cases h
    exact ⟨hc.1.2, hc.2⟩
   ·exact prtL_own h
theorem own_in {cl : List Nat} {t : Tr} (h : ownB cl t.st = true) : ∀ l r, t = .nd l r -> isT cl t = true -> t.st ∈ cl := fun l r e hT => by
 subst e
 have hT : (!singleB (Tr.st (.nd l r)) && (decide (prt cl (Tr.st (.nd l r)) = some (l.st, r.st)) && (isT cl l && isT cl r))) = true := hT
 simp only [Bool.and_eq_true, Bool.not_eq_true'] at hT
 unfold ownB at h
 rw [hT.1, Bool.false_or] at h
 exact of_decide_eq_true h
theorem rbelow_calls (E : RC) (hE : ROK E) : ∀ t : Tr, isT E.cl t = true -> (∀ l r, t = .nd l r -> t.st ∈ E.cl) -> Fit E.S E.own t -> (∀ i ∈ t.lv, i < E.rows.length) -> t.sz <= 1000 -> ∀ w, REnv E w -> Calls Tryz.prog 54 ⟨.int .i64 (t.st : Int) :: E.env⟩ w (RtQ (E.S.map (rcF E.S E.own t)) w)
 | .lf i, _, _, _, hi, _, w, hB => rleaf_calls E hE i w hB (hi i (List.mem_singleton.2 rfl))
 | .nd l r, hT, hin, hf, hi, hz, w, hB => by
  have hmem := hin l r rfl
  have hT : (!singleB (Tr.st (.nd l r)) && (decide (prt E.cl (Tr.st (.nd l r)) = some (l.st, r.st)) && (isT E.cl l && isT E.cl r))) = true := hT
  simp only [Bool.and_eq_true, Bool.not_eq_true', decide_eq_true_eq] at hT
  obtain ⟨h1, h2, h3, h4⟩ := hT
  have hz : 8 + (l.sz + r.sz) <= 1000 := hz
  have hil := fun i (h : i ∈ l.lv) => hi i (List.mem_append_left _ h)
  have hir := fun i (h : i ∈ r.lv) => hi i (List.mem_append_right _ h)
  have h5 := hE.n5
  have hst := st_bd (t := .nd l r) fun i h => by have := hi i h; omega
  obtain ⟨o1, o2⟩ := prtL_own (show prtL E.cl (Tr.st (.nd l r)) (Tr.st (.nd l r)) ((Tr.st (.nd l r) - 1) &&& Tr.st (.nd l r)) = some (l.st, r.st) from h2)
  exact rnode_calls E hE l r w hB _ rfl h1 h2 hmem hst.1 hst.2 hf (by omega) (by omega)
   (fun W hW => rbelow_calls E hE l h3 (fun a b e => own_in o1 a b e h3) hf.l hil (by omega) W hW) (fun W hW => rbelow_calls E hE r h4 (fun a b e => own_in o2 a b e h4) hf.r hir (by omega) W hW)
end R41
end Go.Proofs

set_option maxRecDepth 100000
set_option maxHeartbeats 400000000
namespace Go.Proofs
open Go.RowKit Go.Kin Go.Kin.Se Go.Kin.Cl
namespace R41
theorem min57b_calls (A : Option Addr) (cap : Nat) (l : List Nat) (w : World) (hA : Kin.At w A 1 (l.map nE)) (hne : l ≠ []) (hl : l.length <= 100000) (hb : ∀ x ∈ l, x <= 1000000000000) :
  Calls Tryz.prog 57 ⟨[.slice A l.length cap]⟩ w fun e w' => e = .returned (.int .i64 (mn l)) /\ Below w.heap.size w w' := by
 have hlp : 0 < l.length := List.length_pos_iff.2 hne
 obtain ⟨x0, hx0⟩ : ∃ x, l[0]? = some x := ⟨_, List.getElem?_eq_getElem hlp⟩
 have hg : ∀ (i c : Nat), l[i]? = some c -> ∃ b o, A = some ⟨b, o, none⟩ /\ Ext w (base w) b (o + i) [.int .i64 c] := fun i c hi => by
  obtain ⟨b, o, e, hc⟩ := hA i (nE c) (by simp [hi])
  refine ⟨b, o, e, ?_⟩
  have := ext_of hc
  rwa [Nat.mul_one] at this
 obtain ⟨bA, oA, rfl, e0⟩ := hg 0 x0 hx0
 rw [Nat.add_zero] at e0
 refine fEn Tryz.func57 rfl Tryz.ntmps57 rfl rfl (sWn w) ?_
 repeat (first|refine lVa rfl rfl (by first|exact pEv rfl|exact vL0 rfl (by assumption) rfl (by rfl)|exact v_index rfl rfl rfl rfl (by omega) (by omega) (by with_reducible first|exact idx6 _ _|fail)|fail) ?_|refine lNi ?_|refine cRg ?_|refine cSq ?_|refine xTh ?_|refine c_dec_f rfl (by first|omega|fail) ?_|refine cBl ?_|refine cSk ?_|fail)
 refine c_loop (ι := Nat × Nat) (fun s => s.1 <= l.length /\ 1 <= s.1 /\ s.2 ∈ l /\ ∀ x ∈ l.take s.1, s.2 <= x) (fun s => [(0, .slice (some ⟨bA, oA, none⟩) l.length cap), (3, .int .i64 s.2), (4, .int .i64 s.1)]) (fun _ => []) (fun s => l.length - s.1) (1, x0) ⟨hlp, Nat.le_refl _, List.mem_of_getElem? hx0, fun x hx => by
  have : l.take 1 = [x0] := by
   cases l with
   | nil => cases hx0
   | cons y l => cases hx0; rfl
  rw [this] at hx
  rw [List.mem_singleton.1 hx]; exact Nat.le_refl _⟩ (by repeat (first|exact .nil|refine .cons rfl (by first|rfl|(congr 1; done)|exact congrArg _ (by omega)|(simp; done)) ?_)) (by repeat (first|exact .nil|refine .keep (by first|rfl|assumption) ?_|refine .drop ?_|exact MSub.refl _)) ?_
 rintro ⟨i, m⟩ ⟨h1, h2, h3, h4⟩
 simp only at h1 h2 h3 h4 ⊢
 have hmb := hb m h3
 by_cases hlt : i < l.length
 ·obtain ⟨y, hy⟩ : ∃ y, l[i]? = some y := ⟨_, List.getElem?_eq_getElem hlt⟩
  obtain ⟨b, o, e, ex⟩ := hg i y hy
  cases e
  have hyb := hb y (List.mem_of_getElem? hy)
  have hmc : min (m : Int) (y : Int) = ((min m y : Nat) : Int) := by omega
  repeat (first|refine lVa rfl rfl (by first|exact v_add rfl rfl (by omega) (by omega)|exact pEv rfl|exact vL0 rfl (by assumption) rfl (by rfl)|exact v_index rfl rfl rfl rfl (by omega) (by omega) (by with_reducible first|exact idx2 _ _|fail)|fail) ?_|refine lNi ?_|refine cRg ?_|refine cSq ?_|refine xTh ?_|refine c_dec_t rfl (by first|omega|fail) ?_|refine cBl ?_|refine cSk ?_|refine x_block ?_|fail)
  rw [hmc]
  refine x_back (i + 1, min m y) ⟨hlt, by simp only; omega, ?_, fun x hx => ?_⟩ (by simp only; omega) (by repeat (first|exact .nil|refine .cons rfl (by first|rfl|(congr 1; done)|exact congrArg _ (by omega)|(simp; done)) ?_)) (by repeat (first|exact .nil|refine .keep (by first|rfl|assumption) ?_|refine .drop ?_|exact MSub.refl _))
  ·simp only
   by_cases h : m <= y
   ·rw [Nat.min_eq_left h]; exact h3
   ·rw [Nat.min_eq_right (by omega)]; exact List.mem_of_getElem? hy
  ·simp only at hx ⊢
   rw [List.take_add_one, hy] at hx
   rcases List.mem_append.1 hx with h | h
   ·have := h4 x h; omega
   ·rw [List.mem_singleton.1 h]; omega
 ·have hie : i = l.length := by omega
  rw [hie, List.take_length] at h4
  have hmn : mn l = m := mn_eq h3 h4
  repeat (first|refine lVa rfl rfl (by first|exact pEv rfl|fail) ?_|refine lNi ?_|refine cRg ?_|refine cSq ?_|refine xTh ?_|refine c_dec_f rfl (by first|omega|fail) ?_|refine c_ret ?_|refine c_exit ?_|refine xTe ?_|refine xBs ?_|fail)
  exact x_ret rfl rfl (by repeat constructor) rfl (fun W hW => ⟨by rw [hmn], hW.below⟩)

/-! ## The states -/
def cdN (j : Nat) (v : RV) : Option Nat := if v.l.getD j lost = lost then none else some (v.l.getD j lost).toNat
def lstN (rows : List RV) (j i : Nat) : List Nat := 0 :: (rows.take i).filterMap (cdN j)
def stS (rows : List RV) (j : Nat) : List Int := Lib.compact (cst (isrt (lstN rows j rows.length)))
theorem isrt_mem (l : List Nat) (x : Nat) : x ∈ isrt l ↔ x ∈ l := by
 unfold isrt
 have key : ∀ (l p : List Nat), x ∈ l.foldl (fun p y => ins y p) p ↔ x ∈ p ∨ x ∈ l := fun l => by
  induction l with
  | nil => intro p; simp
  | cons y l ih =>
   intro p
   rw [List.foldl_cons, ih, ins_mem, List.mem_cons]
   constructor
   ·rintro ((h | h) | h)
    ·exact .inr (.inl h)
    ·exact .inl h
    ·exact .inr (.inr h)
   ·rintro (h | h | h)
    ·exact .inl (.inr h)
    ·exact .inl (.inl h)
    ·exact .inr h
 rw [key]; simp
theorem lstN_len (rows : List RV) (j i : Nat) : (lstN rows j i).length <= rows.length + 1 := by
 unfold lstN
 have h1 := List.length_filterMap_le (cdN j) (rows.take i)
 have h2 : (rows.take i).length <= rows.length := by rw [List.length_take]; omega
 rw [List.length_cons]; omega
theorem stS_len (rows : List RV) (j : Nat) : (stS rows j).length <= rows.length + 1 := by
 unfold stS
 have := compact_le (cst (isrt (lstN rows j rows.length)))
 rw [cst_len, isrt_len] at this
 have := lstN_len rows j rows.length
 omega
theorem stS_mem {rows : List RV} {j : Nat} (hc : ∀ v ∈ rows, 0 <= v.l.getD j lost) (x : Int) : x ∈ stS rows j ↔ x ∈ keysR rows j := by
 unfold stS
 rw [compact_mem]
 have h1 : x ∈ cst (isrt (lstN rows j rows.length)) ↔ ∃ y ∈ lstN rows j rows.length, (y : Int) = x := by
  unfold cst
  rw [List.mem_map]
  exact ⟨fun ⟨y, hy, e⟩ => ⟨y, (isrt_mem _ _).1 hy, e⟩, fun ⟨y, hy, e⟩ => ⟨y, (isrt_mem _ _).2 hy, e⟩⟩
 rw [h1]
 unfold lstN
 rw [List.take_length]
 constructor
 ·rintro ⟨y, hy, rfl⟩
  rcases List.mem_cons.1 hy with rfl | hy
  ·exact fold_sub rows [0] 0 (by simp)
  ·obtain ⟨v, hv, hcd⟩ := List.mem_filterMap.1 hy
   unfold cdN at hcd
   split at hcd
   ·cases hcd
   ·rename_i hne
    have h0 := hc v hv
    have e : (y : Int) = v.l.getD j lost := by have := Option.some.inj hcd; omega
    rw [e]
    rcases fold_mem (j := j) rows [0] v hv with h | h
    ·exact absurd h hne
    ·exact h
 ·intro h
  rcases fold_in rows [0] x h with h | ⟨v, hv, e, hne⟩
  ·rw [List.mem_singleton] at h
   exact ⟨0, List.mem_cons_self, by rw [h]; rfl⟩
  ·refine ⟨x.toNat, List.mem_cons_of_mem _ (List.mem_filterMap.2 ⟨v, hv, ?_⟩), ?_⟩
   ·unfold cdN
    rw [if_neg (by rw [<- e]; exact hne), e]
   ·have := hc v hv
    rw [<- e] at this; omega
theorem stS_fit {rows : List RV} {j : Nat} {t : Tr} (hc : ∀ v ∈ rows, 0 <= v.l.getD j lost) (hi : ∀ i ∈ t.lv, i < rows.length) : Fit (stS rows j) (ownR rows j) t := by
 obtain ⟨h1, h2⟩ := keysR_fit (j := j) hi
 obtain ⟨s, hs⟩ := List.exists_mem_of_ne_nil _ h1
 exact ⟨List.ne_nil_of_mem ((stS_mem hc s).2 hs), fun i h => (h2 i h).imp id (stS_mem hc _).2⟩
/-- the states of the root at a locus -/
def rtL (rows : List RV) (t : Tr) (j : Nat) : List Int := rts (stS rows j) (ownR rows j) t
/-- a list of numbers in a list of lists -/
structure RzE where
 l : List Int
 b : Nat
 c : Nat
 r : List Value
def RzE.v (e : RzE) : List Value := [gSl e.l e.b e.c]
def RzE.m (e : RzE) : List (Nat × Obj) := gM inE 3 e.l e.b e.r
theorem rzE_len (l : List RzE) : ((l.map RzE.v).flatten).length = l.length * 1 := by
 induction l with
 | nil => rfl
 | cons x l ih => rw [List.map_cons, List.flatten_cons, List.length_append, ih, List.length_cons]; show 1 + _ = _; omega
theorem inE_rows (l : List Int) : ((l.map inE).flatten).length = l.length * 1 := by rw [flZ_eq, flZ_len, Nat.mul_one]
end R41
end Go.Proofs

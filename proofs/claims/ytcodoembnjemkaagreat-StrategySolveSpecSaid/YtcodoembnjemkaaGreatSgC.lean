/- Games on networks: the points that may occur, and that are due. -/
import Derived.Test.YtcodoembnjemkaaGreatSgB
set_option maxRecDepth 100000
set_option maxHeartbeats 400000000
set_option linter.unusedSectionVars false
set_option linter.unusedVariables false
set_option linter.unusedSimpArgs false
namespace Go.Proofs
open Go.RowKit Go.Kin Go.Kin.St Go.Kin.Ct Go.Kin.Sg
namespace R24
theorem iv_some {C : List Lk} {q i : Nat} (h : into C (q : Int) = some i) : iv C q = (i : Int) + 1 := by unfold iv; rw [h]
theorem iv_none {C : List Lk} {q : Nat} (h : into C (q : Int) = none) : iv C q = 0 := by unfold iv; rw [h]
theorem cells_c {b : GB} : b.cells[2]? = some (.slice b.B b.C.length b.cb) := rfl
/-- the links are right -/
def Rt (b : GB) : Prop := ∀ x ∈ b.C, Cal b.n x
structure MS where
 i : Nat
 b : Nat
 c : Nat
 r : List Value
 b' : Nat
 c' : Nat
 r' : List Value
/-- two lists of points in new memory -/
def LsQ2 (l m : List Nat) (w : World) (e : Ending) (w' : World) : Prop :=
 ∃ (b cap : Nat) (rest : List Value) (b' cap' : Nat) (rest' : List Value), e = .returned (.tuple ⟨[gSl l b cap, gSl m b' cap']⟩) /\ gOK nE 1 l cap rest /\ gOK nE 1 m cap' rest' /\ Below w.heap.size w w' /\
  (∀ p ∈ gM nE 3 l b rest ++ gM nE 3 m b' rest', w.heap.size <= p.1 /\ w'.heap[p.1]? = some p.2) /\ ((gM nE 3 l b rest ++ gM nE 3 m b' rest').map (·.1)).Nodup
theorem lsQ2_ret {l m : List Nat} {w W : World} {p : Nat × Obj} {b cap b' cap' : Nat} {rest rest' : List Value} (hW : SatW w (base w) noJ (p :: (gM nE 3 l b rest ++ gM nE 3 m b' rest')) W) (hg : gOK nE 1 l cap rest) (hg' : gOK nE 1 m cap' rest') : LsQ2 l m w (.returned (.tuple ⟨[gSl l b cap, gSl m b' cap']⟩)) W :=
 ⟨b, cap, rest, b', cap', rest', rfl, hg, hg', hW.below, fun x hx => ⟨Nat.le_of_not_lt (hW.own x (List.mem_cons_of_mem _ hx)).1, (hW.own x (List.mem_cons_of_mem _ hx)).2⟩, (List.nodup_cons.1 (by simpa only [List.map_cons] using hW.nodup)).2⟩
theorem may_calls (b : GB) (a : Nat) (k : Int) (f : Nat -> Int) (w : World) (hn : b.n <= 6) (hk : 0 <= k /\ k <= 1000) (hf : ∀ q, 0 <= f q /\ f q <= 1000) (hR : Rt b) (hc : b.C.length <= 1000) (hg : GIn b a w) :
  Calls Tryz.prog 32 ⟨[.pointer (some ⟨a, 0, none⟩), .agg ⟨plC k f⟩]⟩ w (LsQ2 (flt (mayF b.C k f) b.n) (flt (dueF b.C k f) b.n) w) := by
 have hown := hg.ext
 have hC := hg.c
 refine fEn Tryz.func32 rfl Tryz.ntmps32 rfl rfl (sWn w) ?_
 have h00 : Ext w (base w) a 0 [.int .i64 b.n] := hown.at cells_0
 have h02 : Ext w (base w) a (0 + 0 + 2) [.slice b.B b.C.length b.cb] := hown.at cells_c
 have hpl0 := plC_0 (k := k) (f := f)
 repeat (first|refine lVa rfl rfl (by first|exact pEv rfl|exact vL0 rfl (by assumption) rfl (by rfl)|fail) ?_|refine lNi ?_|refine cRg ?_|refine cSq ?_|refine xTh ?_|refine r_box rfl rfl rfl rfl (fun _ => ?_)|refine cBl ?_|fail)
 rename_i b1
 refine c_loop (ι := MS) (fun s => s.i <= b.n /\ gOK nE 1 (flt (mayF b.C k f) s.i) s.c s.r /\ gOK nE 1 (flt (dueF b.C k f) s.i) s.c' s.r') (fun s => [(0, .pointer (some ⟨a, 0, none⟩)), (3, .pointer (some ⟨b1, 0, none⟩)), (4, gSl (flt (mayF b.C k f) s.i) s.b s.c), (5, gSl (flt (dueF b.C k f) s.i) s.b' s.c'), (13, .int .i64 b.n), (14, .int .i64 s.i)])
  (fun s => (b1, .cells ⟨plC k f⟩ 54 (0, 0)) :: (gM nE 3 (flt (mayF b.C k f) s.i) s.b s.r ++ gM nE 3 (flt (dueF b.C k f) s.i) s.b' s.r')) (fun s => b.n - s.i) ⟨0, 0, 0, [], 0, 0, []⟩ ⟨Nat.zero_le _, fun h => absurd rfl h, fun h => absurd rfl h⟩ (by repeat (first|exact .nil|refine .cons rfl (by first|rfl|(congr 1; done)|exact congrArg _ (by omega)|(simp; done)) ?_)) (by repeat (first|exact .nil|refine .keep (by first|rfl|assumption) ?_|refine .drop ?_|exact MSub.refl _)) ?_
 rintro ⟨q, bb, cc, r, bd, cd, rd⟩ ⟨hq, hgr, hgd⟩
 simp only at hq hgr hgd ⊢
 by_cases hlt : q < b.n
 ·have hiv : Ext w (base w) a (0 + 4 + q) [.int .i64 (iv b.C q)] := by
   have := hown.at (cells_iv (b := b) (show q < 6 by omega))
   rwa [show 0 + (4 + q) = 0 + 4 + q by omega] at this
  have hpl := plC_get (k := k) (f := f) (show q < 6 by omega)
  have hsm := flt_succ (mayF b.C k f) q
  have hsd := flt_succ (dueF b.C k f) q
  have hlm := flt_le (mayF b.C k f) q
  have hld := flt_le (dueF b.C k f) q
  have hgr' := fun (_ : Unit) => hgr
  have hgd' := fun (_ : Unit) => hgd
  clear hgr hgd
  have hno : wtF b.C k f q = none -> flt (mayF b.C k f) (q + 1) = flt (mayF b.C k f) q /\ flt (dueF b.C k f) (q + 1) = flt (dueF b.C k f) q := fun h => by
   rw [hsm, hsd]
   have e1 : mayF b.C k f q = false := by unfold mayF; rw [h]
   have e2 : dueF b.C k f q = false := by unfold dueF; rw [h]
   rw [e1, e2]
   exact ⟨rfl, rfl⟩
  cases hin : into b.C (q : Int) with
  | none =>
   have h1 := iv_none hin
   obtain ⟨e1, e2⟩ := hno (by unfold wtF lnk; rw [hin]; rfl)
   rw [h1] at hiv
   clear hno
   repeat (first|refine lVa rfl rfl (by first|exact v_add rfl rfl (by omega) (by omega)|exact pEv rfl|exact vL0 rfl (by assumption) rfl (by rfl)|exact v_indexA rfl rfl rfl rfl (by omega) (by omega) (by with_reducible first|exact idx2 _ _|fail)|fail) ?_|refine lNi ?_|refine cRg ?_|refine cSq ?_|refine xTh ?_|refine l_skip rfl rfl ?_|refine c_true rfl ?_|refine c_dec_t rfl (by first|omega|fail) ?_|refine cBl ?_|refine cSk ?_|refine c_exit ?_|refine xTe ?_|refine xBs ?_|fail)
   exact x_back ⟨q + 1, bb, cc, r, bd, cd, rd⟩ ⟨hlt, by rw [e1]; exact hgr' (), by rw [e2]; exact hgd' ()⟩ (by simp only; omega) (by simp only [e1, e2]; exact (by repeat (first|exact .nil|refine .cons rfl (by first|rfl|(congr 1; done)|exact congrArg _ (by omega)|(simp; done)) ?_))) (by simp only [e1, e2]; exact (by repeat (first|exact .nil|refine .keep (by first|rfl|assumption) ?_|refine .drop ?_|exact MSub.refl _)))
  | some i =>
   have h1 := iv_some hin
   obtain ⟨x, hx, hxt⟩ := into_some hin
   have hcal := hR x (List.mem_of_getElem? hx)
   obtain ⟨c1, c2, c3, c4, c5, c6, c7, c8⟩ := hcal
   have hci := into_lt hin
   have hlk : lnk b.C q = some x := by unfold lnk; rw [hin]; exact hx
   have hw : wtF b.C k f q = if f q = 0 /\ f x.fr.toNat ≠ 0 then some (k + 1 - f x.fr.toNat, x) else none := by unfold wtF; rw [hlk]
   rw [h1] at hiv
   by_cases h2 : f q = 0
   rotate_left
   ·obtain ⟨e1, e2⟩ := hno (by rw [hw, if_neg (fun h => h2 h.1)])
    clear hno
    repeat (first|refine lVa rfl rfl (by first|exact v_add rfl rfl (by omega) (by omega)|exact pEv rfl|exact vL0 rfl (by assumption) rfl (by rfl)|exact v_indexA rfl rfl rfl rfl (by omega) (by omega) (by with_reducible first|exact idx2 _ _|fail)|exact v_load_at rfl (by repeat constructor) rfl rfl (by first|assumption|fail)|fail) ?_|refine lNi ?_|refine cRg ?_|refine cSq ?_|refine xTh ?_|refine c_dec_t rfl (by first|omega|fail) ?_|refine cBl ?_|refine cSk ?_|refine c_exit ?_|refine xTe ?_|refine xBs ?_|fail)
    exact x_back ⟨q + 1, bb, cc, r, bd, cd, rd⟩ ⟨hlt, by rw [e1]; exact hgr' (), by rw [e2]; exact hgd' ()⟩ (by simp only; omega) (by simp only [e1, e2]; exact (by repeat (first|exact .nil|refine .cons rfl (by first|rfl|(congr 1; done)|exact congrArg _ (by omega)|(simp; done)) ?_))) (by simp only [e1, e2]; exact (by repeat (first|exact .nil|refine .keep (by first|rfl|assumption) ?_|refine .drop ?_|exact MSub.refl _)))
   obtain ⟨bx, ox, hBe, hcx⟩ := hC i (lkE x) (by simp [hx])
   have hex := ext_of hcx
   rw [hBe] at h02
   have hpf := plC_get (k := k) (f := f) (show x.fr.toNat < 6 by omega)
   have hff := hf x.fr.toNat
   obtain ⟨fv, hfv⟩ : ∃ v, f x.fr.toNat = v := ⟨_, rfl⟩
   rw [hfv] at hpf hff hw
   have hii : ((i : Int) + 1 - 1).toNat = i := by omega
   rw [<- hii] at hex
   have hno' := fun (_ : Unit) => hno
   clear hno
   repeat ((fail_if_success refine c_probe (id := 5) ?_); (fail_if_success refine c_probe1 (id := 5) ?_); first|refine lVa rfl rfl (by first|exact pEv rfl|exact vL0 rfl (by assumption) rfl (by rfl)|exact v_indexA rfl rfl rfl rfl (by omega) (by omega) (by with_reducible first|exact idx2 _ _|fail)|exact v_load_at rfl (by repeat constructor) rfl rfl (by first|assumption|fail)|fail) ?_|refine lNi ?_|refine cRg ?_|refine cSq ?_|refine xTh ?_|refine c_dec_t rfl (by first|omega|fail) ?_|refine c_dec_f rfl (by first|omega|fail) ?_|refine cBl ?_|refine cSk ?_|fail)
   refine cSq ?_
   refine c_new 0 1 [(14, .new 0), (15, .sto 0 0 4)] [(14,[0]),(15,[0])] [] rfl (by decide +kernel) rfl ?_; repeat (first|refine lVa rfl rfl (by first|exact pEv rfl|exact vLd rfl (by repeat constructor) rfl (by rfl)|exact v_indexA rfl rfl rfl rfl (by omega) (by omega) (by with_reducible first|exact idx6 _ _|fail)|exact v_load_at rfl (by repeat constructor) rfl rfl (by first|assumption|fail)|fail) ?_|refine lNi ?_|refine cRg ?_|refine cSq ?_|refine xTh ?_|refine e_val rfl rfl rfl rfl (by first|exact v_sub rfl rfl (by omega) (by omega)|exact pEv rfl|exact vL0 rfl (by assumption) rfl (by rfl)|exact v_index rfl rfl rfl rfl (by omega) (by omega) (by with_reducible first|exact idx8 _ _ _|fail)|exact v_indexA rfl rfl rfl rfl (by omega) (by omega) (by with_reducible first|exact idx2 _ _|fail)|fail) ?_|refine e_new rfl rfl rfl rfl (by first|exact n_alloc rfl (by first|exact aggL|fail)|fail) (fun _ => ?_)|refine e_store rfl rfl rfl rfl rfl rfl rfl rfl (by first|rfl|fail) rfl rfl (by first|(simp; done)|fail) (by first|exact splice_lit (by rfl)|fail) ?_|refine e_nil rfl ?_|fail)
   rename_i b7
   by_cases h3 : fv = 0
   ·obtain ⟨e1, e2⟩ := hno' () (by rw [hw, if_neg (fun h => h.2 h3)])
    repeat (first|refine lVa rfl rfl (by first|exact v_add rfl rfl (by omega) (by omega)|exact pEv rfl|fail) ?_|refine lNi ?_|refine cRg ?_|refine xTh ?_|refine c_dec_t rfl (by first|omega|fail) ?_|refine c_exit ?_|refine xTe ?_|refine xBs ?_|fail)
    exact x_back ⟨q + 1, bb, cc, r, bd, cd, rd⟩ ⟨hlt, by rw [e1]; exact hgr' (), by rw [e2]; exact hgd' ()⟩ (by simp only; omega) (by simp only [e1, e2]; exact (by repeat (first|exact .nil|refine .cons rfl (by first|rfl|(congr 1; done)|exact congrArg _ (by omega)|(simp; done)) ?_))) (by simp only [e1, e2]; exact (by repeat (first|exact .nil|refine .keep (by first|rfl|assumption) ?_|refine .drop ?_|exact MSub.refl _)))
   rw [if_pos ⟨h2, h3⟩] at hw
   have hmv : mayF b.C k f q = (decide (x.lo <= k + 1 - fv) && decide (k + 1 - fv <= x.hi)) := by unfold mayF; rw [hw]
   have hdv : dueF b.C k f q = (decide (x.lo <= k + 1 - fv) && decide (k + 1 - fv = x.hi)) := by unfold dueF; rw [hw]
   obtain ⟨A', k', hA'⟩ := gSl_len (l := flt (mayF b.C k f) q) (b := bb) (cap := cc)
   obtain ⟨B', k2, hB'⟩ := gSl_len (l := flt (dueF b.C k f) q) (b := bd) (cap := cd)
   by_cases h4 : k + 1 - fv = x.hi
   ·rw [decide_eq_true (show x.lo <= k + 1 - fv by omega), decide_eq_true (show k + 1 - fv <= x.hi by omega)] at hmv
    rw [decide_eq_true (show x.lo <= k + 1 - fv by omega), decide_eq_true h4] at hdv
    rw [hmv, if_pos (by rfl)] at hsm
    rw [hdv, if_pos (by rfl)] at hsd
    rw [hA', hB']
    repeat (first|refine lVa rfl rfl (by first|exact pEv rfl|exact vLd rfl (by repeat constructor) rfl (by rfl)|fail) ?_|refine lNi ?_|refine cRg ?_|refine cSq ?_|refine xTh ?_|refine r_buildSlice rfl rfl rfl rfl rfl rfl (by rfl) (fun _ => ?_)|refine c_dec_t rfl (by first|omega|fail) ?_|refine c_dec_f rfl (by first|omega|fail) ?_|refine cBl ?_|refine cSk ?_|refine c_reads rfl (by decide +kernel) ?_|refine q_val rfl rfl (by first|exact v_add rfl rfl (by omega) (by omega)|exact v_sub rfl rfl (by omega) (by omega)|exact pEv rfl|exact vLd rfl (by repeat constructor) rfl (by rfl)|exact v_indexA rfl rfl rfl rfl (by omega) (by omega) (by with_reducible first|exact idx6 _ _|fail)|exact v_load_at rfl (by repeat constructor) rfl rfl (by first|assumption|fail)|fail) ?_|refine q_nil ?_|fail)
    refine r_appendZ (f := nE) (e := 3) (sz := 1) (xs := flt (mayF b.C k f) q) (ys := [q]) (m := 1) rfl rfl (congrArg some hA'.symm) rfl rfl rfl rfl (.inr ⟨_, 0, rfl, news_own (by repeat constructor)⟩) (List.perm_append_comm_assoc [_, _, _] _ _) (hgr' ()) nE_rows rfl rfl (by omega) (by unfold maxLen; omega) (fun b8 c8 r8 hg8 => ?_)
    rw [<- hsm] at hg8 ⊢
    refine l_perm (List.perm_append_comm_assoc _ [_, _, _] _) ?_
    obtain ⟨A2', k2', hA2'⟩ := gSl_len (l := flt (mayF b.C k f) (q + 1)) (b := b8) (cap := c8)
    rw [hA2']
    simp only [List.cons_append, List.nil_append]
    repeat (first|refine lVa rfl rfl (by first|exact pEv rfl|fail) ?_|refine r_buildSlice rfl rfl rfl rfl rfl rfl (by rfl) (fun _ => ?_)|fail)
    refine r_appendZ (f := nE) (e := 3) (sz := 1) (xs := flt (dueF b.C k f) q) (ys := [q]) (m := 1) rfl rfl (congrArg some hB'.symm) rfl rfl rfl rfl (.inr ⟨_, 0, rfl, news_own (by repeat constructor)⟩) ((List.perm_append_comm.append_left [_, _, _, _]).trans (List.perm_append_comm_assoc [_, _, _, _] _ _)) (hgd' ()) nE_rows rfl rfl (by omega) (by unfold maxLen; omega) (fun b9 c9 r9 hg9 => ?_)
    rw [<- hsd] at hg9 ⊢
    refine l_perm ((List.perm_append_comm_assoc _ [_, _, _, _] _).trans (List.perm_append_comm.append_left [_, _, _, _])) ?_
    obtain ⟨B2', k3', hB2'⟩ := gSl_len (l := flt (dueF b.C k f) (q + 1)) (b := b9) (cap := c9)
    rw [hB2']
    simp only [List.cons_append, List.nil_append]
    repeat (first|refine lVa rfl rfl (by first|exact v_add rfl rfl (by omega) (by omega)|exact pEv rfl|fail) ?_|refine lNi ?_|refine cRg ?_|refine xTh ?_|refine x_block ?_|fail)
    rw [<- hA2', <- hB2']
    exact x_back ⟨q + 1, b8, c8, r8, b9, c9, r9⟩ ⟨hlt, hg8, hg9⟩ (by simp only; omega) (by repeat (first|exact .nil|refine .cons rfl (by first|rfl|(congr 1; done)|exact congrArg _ (by omega)|(simp; done)) ?_)) (by repeat (first|exact .nil|refine .keep (by first|rfl|assumption) ?_|refine .drop ?_|exact MSub.refl _))
   by_cases h5 : x.lo <= k + 1 - fv /\ k + 1 - fv < x.hi
   ·rw [decide_eq_true h5.1, decide_eq_true (show k + 1 - fv <= x.hi by omega)] at hmv
    rw [decide_eq_false h4, Bool.and_false] at hdv
    rw [hmv, if_pos (by rfl)] at hsm
    rw [hdv, if_neg (by decide)] at hsd
    obtain ⟨h6, h7⟩ := h5
    rw [hA']
    repeat (first|refine lVa rfl rfl (by first|exact pEv rfl|exact vLd rfl (by repeat constructor) rfl (by rfl)|fail) ?_|refine lNi ?_|refine cRg ?_|refine cSq ?_|refine xTh ?_|refine r_buildSlice rfl rfl rfl rfl rfl rfl (by rfl) (fun _ => ?_)|refine c_dec_t rfl (by first|omega|fail) ?_|refine c_dec_f rfl (by first|omega|fail) ?_|refine cBl ?_|refine cSk ?_|refine l_dec_t rfl rfl rfl rfl rfl (by first|omega|fail) ?_|refine c_reads rfl (by decide +kernel) ?_|refine q_val rfl rfl (by first|exact v_add rfl rfl (by omega) (by omega)|exact v_sub rfl rfl (by omega) (by omega)|exact pEv rfl|exact vLd rfl (by repeat constructor) rfl (by rfl)|exact v_indexA rfl rfl rfl rfl (by omega) (by omega) (by with_reducible first|exact idx6 _ _|fail)|exact v_load_at rfl (by repeat constructor) rfl rfl (by first|assumption|fail)|fail) ?_|refine q_nil ?_|fail)
    refine r_appendZ (f := nE) (e := 3) (sz := 1) (xs := flt (mayF b.C k f) q) (ys := [q]) (m := 1) rfl rfl (congrArg some hA'.symm) rfl rfl rfl rfl (.inr ⟨_, 0, rfl, news_own (by repeat constructor)⟩) (List.perm_append_comm_assoc [_, _, _] _ _) (hgr' ()) nE_rows rfl rfl (by omega) (by unfold maxLen; omega) (fun b8 c8 r8 hg8 => ?_)
    rw [<- hsm] at hg8 ⊢
    refine l_perm (List.perm_append_comm_assoc _ [_, _, _] _) ?_
    obtain ⟨A2', k2', hA2'⟩ := gSl_len (l := flt (mayF b.C k f) (q + 1)) (b := b8) (cap := c8)
    rw [hA2']
    simp only [List.cons_append, List.nil_append]
    repeat (first|refine lVa rfl rfl (by first|exact v_add rfl rfl (by omega) (by omega)|exact pEv rfl|fail) ?_|refine lNi ?_|refine cRg ?_|refine xTh ?_|refine x_block ?_|fail)
    rw [<- hA2']
    exact x_back ⟨q + 1, b8, c8, r8, bd, cd, rd⟩ ⟨hlt, hg8, by rw [hsd]; exact hgd' ()⟩ (by simp only; omega) (by simp only [hsd]; exact (by repeat (first|exact .nil|refine .cons rfl (by first|rfl|(congr 1; done)|exact congrArg _ (by omega)|(simp; done)) ?_))) (by simp only [hsd]; exact (by repeat (first|exact .nil|refine .keep (by first|rfl|assumption) ?_|refine .drop ?_|exact MSub.refl _)))
   ·have hmf : mayF b.C k f q = false := by
     rw [hmv]
     by_cases h6 : x.lo <= k + 1 - fv
     ·rw [decide_eq_false (show ¬ k + 1 - fv <= x.hi by omega), Bool.and_false]
     ·rw [decide_eq_false h6, Bool.false_and]
    rw [decide_eq_false h4, Bool.and_false] at hdv
    rw [hmf, if_neg (by decide)] at hsm
    rw [hdv, if_neg (by decide)] at hsd
    by_cases h6 : x.lo <= k + 1 - fv
    ·have h7 : ¬ k + 1 - fv < x.hi := fun h => h5 ⟨h6, h⟩
     clear h5
     repeat (first|refine lVa rfl rfl (by first|exact v_add rfl rfl (by omega) (by omega)|exact pEv rfl|exact vLd rfl (by repeat constructor) rfl (by rfl)|fail) ?_|refine lNi ?_|refine cRg ?_|refine cSq ?_|refine xTh ?_|refine c_dec_f rfl (by first|omega|fail) ?_|refine cBl ?_|refine cSk ?_|refine x_block ?_|refine l_dec_t rfl rfl rfl rfl rfl (by first|omega|fail) ?_|refine c_reads rfl (by decide +kernel) ?_|refine q_val rfl rfl (by first|exact v_add rfl rfl (by omega) (by omega)|exact v_sub rfl rfl (by omega) (by omega)|exact pEv rfl|exact vLd rfl (by repeat constructor) rfl (by rfl)|exact v_indexA rfl rfl rfl rfl (by omega) (by omega) (by with_reducible first|exact idx6 _ _|fail)|exact v_load_at rfl (by repeat constructor) rfl rfl (by first|assumption|fail)|fail) ?_|refine q_nil ?_|fail)
     exact x_back ⟨q + 1, bb, cc, r, bd, cd, rd⟩ ⟨hlt, by rw [hsm]; exact hgr' (), by rw [hsd]; exact hgd' ()⟩ (by simp only; omega) (by simp only [hsm, hsd]; exact (by repeat (first|exact .nil|refine .cons rfl (by first|rfl|(congr 1; done)|exact congrArg _ (by omega)|(simp; done)) ?_))) (by simp only [hsm, hsd]; exact (by repeat (first|exact .nil|refine .keep (by first|rfl|assumption) ?_|refine .drop ?_|exact MSub.refl _)))
    ·clear h5
     repeat (first|refine lVa rfl rfl (by first|exact v_add rfl rfl (by omega) (by omega)|exact pEv rfl|exact vLd rfl (by repeat constructor) rfl (by rfl)|fail) ?_|refine lNi ?_|refine cRg ?_|refine cSq ?_|refine xTh ?_|refine l_skip rfl rfl ?_|refine c_false rfl ?_|refine c_dec_f rfl (by first|omega|fail) ?_|refine cBl ?_|refine cSk ?_|refine x_block ?_|refine l_dec_f rfl rfl rfl rfl rfl (by first|omega|fail) ?_|refine c_reads rfl (by decide +kernel) ?_|refine q_val rfl rfl (by first|exact v_add rfl rfl (by omega) (by omega)|exact v_sub rfl rfl (by omega) (by omega)|exact pEv rfl|exact vLd rfl (by repeat constructor) rfl (by rfl)|exact v_indexA rfl rfl rfl rfl (by omega) (by omega) (by with_reducible first|exact idx6 _ _|fail)|exact v_load_at rfl (by repeat constructor) rfl rfl (by first|assumption|fail)|fail) ?_|refine q_nil ?_|fail)
     exact x_back ⟨q + 1, bb, cc, r, bd, cd, rd⟩ ⟨hlt, by rw [hsm]; exact hgr' (), by rw [hsd]; exact hgd' ()⟩ (by simp only; omega) (by simp only [hsm, hsd]; exact (by repeat (first|exact .nil|refine .cons rfl (by first|rfl|(congr 1; done)|exact congrArg _ (by omega)|(simp; done)) ?_))) (by simp only [hsm, hsd]; exact (by repeat (first|exact .nil|refine .keep (by first|rfl|assumption) ?_|refine .drop ?_|exact MSub.refl _)))
 ·have hqe : q = b.n := by omega
  subst hqe
  obtain ⟨A', k', hA'⟩ := gSl_len (l := flt (mayF b.C k f) b.n) (b := bb) (cap := cc)
  obtain ⟨B', k2, hB'⟩ := gSl_len (l := flt (dueF b.C k f) b.n) (b := bd) (cap := cd)
  rw [hA', hB']
  repeat (first|refine lVa rfl rfl (by first|exact pEv rfl|fail) ?_|refine lNi ?_|refine cRg ?_|refine cSq ?_|refine xTh ?_|refine c_dec_f rfl (by first|omega|fail) ?_|refine c_ret ?_|refine c_exit ?_|refine xTe ?_|refine xBs ?_|fail)
  exact x_ret rfl rfl (by repeat constructor) rfl (fun W hW => by rw [<- hA', <- hB']; exact lsQ2_ret hW hgr hgd)
end R24
end Go.Proofs

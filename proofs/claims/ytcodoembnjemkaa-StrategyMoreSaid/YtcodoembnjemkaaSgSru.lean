/- The engine: a head whose operations the rest waits for, itself or by what else is of the head. Generic: no program is named here. -/
import Derived.Test.YtcodoembnjemkaaEng38
import Derived.Sort.Statements
set_option linter.unusedSectionVars false
set_option linter.unusedVariables false
set_option linter.unusedSimpArgs false
namespace Go
open Go.RowKit Go.Sort
namespace Kin
def headB2 (ops : Array Oper) (n : Nat) : Bool :=
  Region.noSelect ops && Nat.ble n ops.size &&
  (List.range n).all (fun k => (Region.ready .any ops (tailArr ops.size k)).contains k && Region.free .any ops (tailArr ops.size k) k) &&
  (List.range ops.size).all (fun j => decide (j < n) || (List.range n).all (fun i => Region.waitsFor .any ops j i || (List.range n).any (fun k => !decide (k = i) && Region.waitsFor .any ops k i)))
section
variable {P : Program} {ops : Array Oper} {C : World → Prop}
/-- what is listed brings what it waits for -/
def ClosedQ (ops : Array Oper) (listed : Array Bool) : Prop := ∀ k ok, ops[k]? = some ok → listed.getD k false = true → ∀ e ∈ ok.after, Region.binds .any e = true → listed.getD e.on false = true
theorem closedQ_set {listed : Array Bool} {j : Nat} (h : ClosedQ ops listed) (hj : j ∈ Region.ready .any ops listed) : ClosedQ ops (listed.setIfInBounds j true) := by
  intro k ok hok hk e he hb
  obtain ⟨hjun, oj, hoj, hall⟩ := mem_ready.1 hj
  have hs : j < listed.size := by
    rcases Nat.lt_or_ge j listed.size with h' | h'
    · exact h'
    · simp [Array.getElem?_eq_none h'] at hjun
  by_cases hjk : j = k
  · subst hjk
    rw [hoj] at hok; cases hok
    have h1 := hall e he hb
    by_cases hje : j = e.on
    · rw [← hje]
      simp [Array.getD_eq_getD_getElem?, Array.getElem?_setIfInBounds, hs]
    · rw [getD_set_ne false hje]; exact h1
  · rw [getD_set_ne false hjk] at hk
    have h1 := h k ok hok hk e he hb
    by_cases hje : j = e.on
    · rw [← hje]
      simp [Array.getD_eq_getD_getElem?, Array.getElem?_setIfInBounds, hs]
    · rw [getD_set_ne false hje]; exact h1
theorem wpAnyH_first2 {n i : Nat} {oi : Oper} {v : Value} {Lq : Act → Prop} (hi : ops[i]? = some oi) (hsel : ∀ (j : Nat) (o : Oper) cs b, ops[j]? = some o → o.op ≠ .select cs b) (hin : i < n) (hn : n ≤ ops.size)
    (htail : ∀ j, n ≤ j → j < ops.size → ∀ i, i < n → Region.waitsFor .any ops j i = true ∨ ∃ k, k < n ∧ k ≠ i ∧ Region.waitsFor .any ops k i = true) :
    ∀ (f : Nat) (listed : Array Bool) (a : Act), ClosedQ ops listed →
      (∀ j oj, ops[j]? = some oj → j ≠ i → listed.getD j true = false → (∀ e ∈ oj.after, Region.binds .any e = true → e.on ≠ i) → oi.apart ops oj = true) →
      i ∈ Region.ready .any ops listed → YieldsIn P ops C oi v a →
      wpAnyH P ops C n Lq f (listed.setIfInBounds i true) (a.put oi.dst v) → wpAnyH P ops C n Lq (f + 1) listed a := by
  intro f
  induction f with
  | zero =>
    intro listed a hcl _ hr hy H
    refine ⟨fun h => (by rw [h] at hr; cases hr), fun j hj => ?_⟩
    by_cases hji : j = i
    · subst hji; exact hy.qOp hi H
    · exfalso
      have h3 := (mem_ready.1 hr).1
      have hno : ∀ k ok, ops[k]? = some ok → (∀ e ∈ ok.after, Region.binds .any e = true → listed.getD e.on false = true) → Region.waitsFor .any ops k i = true → False := by
        intro k ok hok hall hw
        obtain ⟨ok', hok', e, he, hb, hon⟩ := Region.waitsFor_spec hw
        rw [hok] at hok'; cases hok'
        have h2 := hall e he hb
        rw [hon] at h2
        rcases Nat.lt_or_ge i listed.size with h' | h'
        · simp [h'] at h2 h3; rw [h2] at h3; cases h3
        · simp [Array.getElem?_eq_none h'] at h2
      have h1 := (mem_ready.1 (ready_mono hj hji)).1
      rw [H.1, tailArr_getD] at h1
      obtain ⟨_, oj, hoj, hall⟩ := mem_ready.1 hj
      have hjs : j < ops.size := by
        rcases Nat.lt_or_ge j ops.size with h | h
        · exact h
        · rw [Array.getElem?_eq_none h] at hoj; cases hoj
      rw [if_pos hjs] at h1
      have hjn : n ≤ j := by simpa using h1
      rcases htail j hjn hjs i hin with h2 | ⟨k, hk, hki, h2⟩
      · exact hno j oj hoj (fun e he hb => by simpa using hall e he hb) h2
      · have hks : k < ops.size := by omega
        refine hno k ops[k] (Array.getElem?_eq_getElem hks) (hcl k _ (Array.getElem?_eq_getElem hks) ?_) h2
        have h4 : (listed.setIfInBounds i true).getD k false = true := by rw [H.1, tailArr_getD]; simp [hks, hk]
        rw [getD_set_ne false (Ne.symm hki)] at h4
        exact h4
  | succ f ih =>
    intro listed a hcl hfree hr hy H
    refine ⟨fun h => (by rw [h] at hr; cases hr), fun j hj => ?_⟩
    by_cases hji : j = i
    · subst hji; exact hy.qOp hi H
    · have h1 := H.2 j (ready_mono hj hji)
      obtain ⟨hjun, oj, hoj, hall⟩ := mem_ready.1 hj
      have hnot : ∀ e ∈ oj.after, Region.binds .any e = true → e.on ≠ i := fun e he hb heq => by
        have h1 := hall e he hb
        have h0 := (mem_ready.1 hr).1
        rw [heq] at h1
        rcases Nat.lt_or_ge i listed.size with h' | h'
        · simp [h'] at h0 h1; rw [h0] at h1; cases h1
        · simp [Array.getElem?_eq_none h'] at h1
      have h2 := qOp_put hoj (hfree j oj hoj hji hjun hnot) (fun cs b => hsel i oi cs b hi) (fun cs b => hsel j oj cs b hoj) hy h1
      have hfree' : ∀ k ok, ops[k]? = some ok → k ≠ i → (listed.setIfInBounds j true).getD k true = false →
          (∀ e ∈ ok.after, Region.binds .any e = true → e.on ≠ i) → oi.apart ops ok = true := fun k ok hk hki hun hno => by
        refine hfree k ok hk hki ?_ hno
        by_cases hjk : j = k
        · subst hjk; exact hjun
        · rw [getD_set_ne true hjk] at hun; exact hun
      refine qOp_mono (fun a' h3 => ih (listed.setIfInBounds j true) a' (closedQ_set hcl hj) hfree' (ready_mono hr (Ne.symm hji)) h3.1 ?_) h2
      rw [Array.setIfInBounds_comm _ _ hji]
      exact h3.2
theorem wpAnyH_lex2 {n : Nat} {Lq : Act → Prop} (hB : headB2 ops n = true) : ∀ (l : List Oper) (k : Nat) (a : Act), ClosedQ ops (tailArr ops.size k) → (∀ j, j < l.length → l[j]? = ops[k + j]?) → k + l.length = n →
    wpQuiet P ops C Lq l a → wpAnyH P ops C n Lq l.length (tailArr ops.size k) a
  | [], k, a, _, _, hk, h => ⟨by rw [show k = n by simpa using hk], h⟩
  | o :: l, k, a, hcl, hl, hk, h => by
    have hB' := hB
    simp only [headB2, Bool.and_eq_true] at hB'
    obtain ⟨⟨⟨hsel, hn⟩, hlex⟩, htl⟩ := hB'
    simp only [List.length_cons] at hk
    have hkn : k < n := by omega
    have h0 : ops[k]? = some o := by simpa using (hl 0 (by simp)).symm
    have hk2 := List.all_eq_true.1 hlex k (List.mem_range.2 hkn)
    simp only [Bool.and_eq_true] at hk2
    have htail : ∀ j, n ≤ j → j < ops.size → ∀ i, i < n → Region.waitsFor .any ops j i = true ∨ ∃ k, k < n ∧ k ≠ i ∧ Region.waitsFor .any ops k i = true := fun j hj hjs i hin => by
      have h1 := List.all_eq_true.1 htl j (List.mem_range.2 hjs)
      simp only [Bool.or_eq_true, decide_eq_true_eq] at h1
      rcases h1 with h1 | h1
      · omega
      · have h2 := List.all_eq_true.1 h1 i (List.mem_range.2 hin)
        simp only [Bool.or_eq_true] at h2
        rcases h2 with h2 | h2
        · exact .inl h2
        · obtain ⟨k, hk1, hk2⟩ := List.any_eq_true.1 h2
          simp only [Bool.and_eq_true, Bool.not_eq_true', decide_eq_false_iff_not] at hk2
          exact .inr ⟨k, List.mem_range.1 hk1, hk2.1, hk2.2⟩
    have hst : qOp P ops C k (wpQuiet P ops C Lq l) a := by unfold qOp; simp only [h0]; exact h
    obtain ⟨v, hy, hK⟩ := yieldsIn_of_qOp h0 hst
    have hrk : k ∈ Region.ready .any ops (tailArr ops.size k) := by simpa using hk2.1
    refine wpAnyH_first2 h0 (Region.noSelect_spec hsel) hkn (Nat.le_of_ble_eq_true hn) htail l.length (tailArr ops.size k) a hcl (Region.free_spec h0 hk2.2) hrk hy ?_
    have hcl2 := closedQ_set hcl hrk
    rw [tailArr_succ] at hcl2 ⊢
    exact wpAnyH_lex2 hB l (k + 1) _ hcl2 (fun j hj => by have := hl (j + 1) (by simp; omega); simpa [Nat.add_assoc, Nat.add_comm 1 j] using this) (by omega) hK
theorem closedQ_zero : ClosedQ ops (tailArr ops.size 0) := fun k ok _ hk => by rw [tailArr_getD] at hk; simp at hk
end
section
variable {P : Program} {N : Nat} {Q : Exit → Act → World → Prop} {env : List (Nat × Value)} {L l : List Oper} {W : World}
theorem c1_head2 [M : Mixed P] {id : Nat} (n : Nat) {hd : List Oper} (hB : headB2 l.toArray n = true) (hh : l.take n = hd) (k : RunH1 P N W l n hd Q env) : RunC1 P N (.region id l.toArray true) Q env W := .mk fun a ha => by
  subst hh
  have hB' := hB
  simp only [headB2, Bool.and_eq_true] at hB'
  have hn := Nat.le_of_ble_eq_true hB'.1.1.2
  simp only [List.size_toArray] at hn
  have hlt : (l.take n).length = n := by rw [List.length_take]; omega
  refine wpIn_region_any M.ok ?_
  have H := wpAnyH_lex2 (P := P) (C := fun X => ∃ q, X = W.drewN q) (Lq := fun a' => ∀ X, (∃ q, X = W.drewN q) → wpAnyIn Fence.wide 0 P .any l.toArray Q (l.length - n) (tailArr l.length n) a' X) hB (l.take n) 0 a closedQ_zero
    (fun j hj => by rw [hlt] at hj; simp [hj]) (by omega) (k.run a ha)
  have H2 := wpAnyIn_of_head (F := Fence.wide) (m := 0) (n := n) (g := l.length - n) (Q := Q) (fun a' W' hC hq => by simpa using hq W' hC) _ _ _ _ ⟨1, drewN_drew W⟩ H
  rw [hlt, show n + (l.length - n) = l.toArray.size by simp; omega, tailArr_zero] at H2
  exact H2
end
end Kin
end Go

set_option linter.unusedSectionVars false
set_option linter.unusedVariables false
set_option linter.unusedSimpArgs false
namespace Go.Proofs
open Go.RowKit Go.Kin Go.Kin.St Go.Kin.Ct Go.Kin.Sg Go.Sort
namespace R24
theorem cell_more {w W : World} {ad : Addr} {v : Value} (h : w.cell? ad = some v) (os : Array Obj) (q : Nat) (e : W = grow (w.drewN q) os) : W.cell? ad = some v := by
  subst e
  have hlt := lt_of_cell h
  unfold World.cell? at h ⊢
  rw [show (grow (w.drewN q) os).heap = w.heap ++ os from rfl, Array.getElem?_append_left hlt]
  exact h
set_option maxRecDepth 100000 in
set_option maxHeartbeats 40000000 in
theorem compare_any (k1 k2 : Int) (ba oa ca bb ob cb : Nat) (a b : List Int) (X Y : Value) (hX : cellsL X = [X]) (hY : cellsL Y = [Y]) (w : World) (hl : a.length = b.length) (hn : a.length ≤ 1000) (ha : ∀ k x, a[k]? = some x → w.cell? ⟨ba, oa + k, none⟩ = some (.int .i64 x)) (hb : ∀ k x, b[k]? = some x → w.cell? ⟨bb, ob + k, none⟩ = some (.int .i64 x)) :
    Calls Try.prog 59 ⟨[.agg ⟨[.int .i64 k1, .slice (some ⟨ba, oa, none⟩) a.length ca, X]⟩, .agg ⟨[.int .i64 k2, .slice (some ⟨bb, ob, none⟩) b.length cb, Y]⟩]⟩ w
      fun e w' => e = .returned (.int .i64 (or2 (cmpI k1 k2) (cmpL a b))) ∧ ∃ q os', w' = grow (w.drewN q) os' := by
  refine fun_enter1 Try.func59 rfl Try.ntmps59 rfl rfl ?_
  repeat refine c1_seq ?_
  refine c1_region ?_
  obtain ⟨W1, hW1⟩ : ∃ W1, w.alloc (.cells ⟨[.int .i64 k1, .slice (some ⟨ba, oa, none⟩) a.length ca, X]⟩ 57 (0, 0)) = W1 := ⟨_, rfl⟩
  have e2 : W1.heap.size = w.heap.size + 1 := by rw [← hW1]; simp
  refine l1_new (V := fun n => .pointer (some ⟨n, 0, none⟩)) (ob := .cells ⟨[.int .i64 k1, .slice (some ⟨ba, oa, none⟩) a.length ca, X]⟩ 57 (0, 0)) (c := cx1 w []) rfl rfl rfl (n_box rfl rfl) ?_
  rw [hW1]
  refine l1_new (V := fun n => .pointer (some ⟨n, 0, none⟩)) (ob := .cells ⟨[.int .i64 k2, .slice (some ⟨bb, ob, none⟩) b.length cb, Y]⟩ 57 (0, 0)) (c := cx1 w []) rfl rfl rfl (n_box rfl rfl) ?_
  rw [e2]
  obtain ⟨W2, hW2⟩ : ∃ W2, W1.alloc (.cells ⟨[.int .i64 k2, .slice (some ⟨bb, ob, none⟩) b.length cb, Y]⟩ 57 (0, 0)) = W2 := ⟨_, rfl⟩
  rw [hW2]
  have hgr : W2 = grow w #[.cells ⟨[.int .i64 k1, .slice (some ⟨ba, oa, none⟩) a.length ca, X]⟩ 57 (0, 0), .cells ⟨[.int .i64 k2, .slice (some ⟨bb, ob, none⟩) b.length cb, Y]⟩ 57 (0, 0)] := by
    rw [← hW2, ← hW1, alloc_eq_grow, alloc_eq_grow, grow_grow]; rfl
  have hsz : W2.heap.size = w.heap.size + 2 := by rw [hgr]; simp [grow]
  have hb2 : W2.heap[w.heap.size]? = some (.cells ⟨[.int .i64 k1, .slice (some ⟨ba, oa, none⟩) a.length ca, X]⟩ 57 (0, 0)) := by rw [hgr]; simp [grow]
  have hb3 : W2.heap[w.heap.size + 1]? = some (.cells ⟨[.int .i64 k2, .slice (some ⟨bb, ob, none⟩) b.length cb, Y]⟩ 57 (0, 0)) := by rw [hgr]; simp [grow]
  obtain ⟨b2, hb2e⟩ : ∃ b2, w.heap.size = b2 := ⟨_, rfl⟩
  obtain ⟨b3, hb3e⟩ : ∃ b3, w.heap.size + 1 = b3 := ⟨_, rfl⟩
  rw [hb3e] at hb3 ⊢
  rw [hb2e] at hb2 ⊢
  have hs : SatW W2 (allBut W2 [b3, b2]) noJ [(b3, .cells ⟨[.int .i64 k2, .slice (some ⟨bb, ob, none⟩) b.length cb, Y]⟩ 57 (0, 0)), (b2, .cells ⟨[.int .i64 k1, .slice (some ⟨ba, oa, none⟩) a.length ca, X]⟩ 57 (0, 0))] W2 :=
    satW_fresh (m := [(b3, .cells ⟨[.int .i64 k2, .slice (some ⟨bb, ob, none⟩) b.length cb, Y]⟩ 57 (0, 0)), (b2, .cells ⟨[.int .i64 k1, .slice (some ⟨ba, oa, none⟩) a.length ca, X]⟩ 57 (0, 0))]) (by simp; omega) (by
      intro p hp
      simp only [List.mem_cons, List.not_mem_nil, or_false] at hp
      rcases hp with rfl | rfl
      · exact hb3
      · exact hb2)
  refine l1_val [b3, b2] hs rfl rfl (pureEval_ok rfl) ?_
  refine l1_nil ?_
  refine x1_then ?_
  repeat refine c1_seq ?_
  refine c1_head2 10 (by decide +kernel) rfl ?_
  refine h1_val hs rfl rfl (by first | exact pureEval_ok rfl ) ?_
  refine h1_val hs rfl rfl (by first | exact v_load rfl (by repeat (first | exact List.Mem.head _ | apply List.Mem.tail)) rfl (by rfl) ) ?_
  refine h1_val hs rfl rfl (by first | exact pureEval_ok rfl ) ?_
  refine h1_val hs rfl rfl (by first | exact v_load rfl (by repeat (first | exact List.Mem.head _ | apply List.Mem.tail)) rfl (by rfl) ) ?_
  refine h1_call rfl rfl rfl (fun q => cmp89_any k1 k2 _) ?_
  refine h1_val hs rfl rfl (by first | exact pureEval_ok rfl ) ?_
  refine h1_val hs rfl rfl (by first | exact v_load rfl (by repeat (first | exact List.Mem.head _ | apply List.Mem.tail)) rfl (by rfl) ) ?_
  refine h1_val hs rfl rfl (by first | exact pureEval_ok rfl ) ?_
  refine h1_val hs rfl rfl (by first | exact v_load rfl (by repeat (first | exact List.Mem.head _ | apply List.Mem.tail)) rfl (by rfl) ) ?_
  have hcl : ∀ q ad v, w.cell? ad = some v → (W2.drewN q).cell? ad = some v := fun q ad v h => cell_more h _ q (by rw [hgr]; rfl)
  refine h1_call rfl rfl rfl (fun q => cmp90_any ba oa ca bb ob cb a b _ hl hn (fun k x h => hcl q _ _ (ha k x h)) (fun k x h => hcl q _ _ (hb k x h))) ?_
  refine h1_nil (fun q => ?_)
  refine a1_one (i := 10) (by decide +kernel) (o1_new (c := cx1 w []) rfl rfl rfl rfl rfl (n_buildSlice rfl rfl rfl rfl (by rfl)) ?_)
  obtain ⟨W4, hW4⟩ : ∃ W4, (W2.drewN q).alloc (.cells ⟨[.int .i64 (cmpI k1 k2), .int .i64 (cmpL a b)]⟩ 3 (0, 0)) = W4 := ⟨_, rfl⟩
  show RunA1 _ _ ((W2.drewN q).alloc (.cells ⟨[.int .i64 (cmpI k1 k2), .int .i64 (cmpL a b)]⟩ 3 (0, 0))) _ _ _ _ _
  rw [hW4]
  have h4 : W4.heap[(W2.drewN q).heap.size]? = some (.cells ⟨[.int .i64 (cmpI k1 k2), .int .i64 (cmpL a b)]⟩ 3 (0, 0)) := by rw [← hW4]; exact World.alloc_heap_new _ _
  have hg4 : W4 = grow (w.drewN q) #[.cells ⟨[.int .i64 k1, .slice (some ⟨ba, oa, none⟩) a.length ca, X]⟩ 57 (0, 0), .cells ⟨[.int .i64 k2, .slice (some ⟨bb, ob, none⟩) b.length cb, Y]⟩ 57 (0, 0), .cells ⟨[.int .i64 (cmpI k1 k2), .int .i64 (cmpL a b)]⟩ 3 (0, 0)] := by
    rw [← hW4, alloc_eq_grow, hgr]
    show grow (grow (w.drewN q) _) _ = _
    rw [grow_grow]; rfl
  refine a1_one (i := 11) (by decide +kernel) (o1_call rfl rfl rfl rfl rfl (or88_any _ (cmpI k1 k2) (cmpL a b) W4 (by unfold World.cell?; simp only; rw [h4]; rfl) (by unfold World.cell?; simp only; rw [h4]; rfl)) ?_)
  have hs4 : SatW W4 (allBut W4 []) noJ [] W4 := satW_fresh (m := []) (by simp) (fun p hp => by cases hp)
  refine a1_one (i := 12) (by decide +kernel) (o1_val hs4 rfl rfl rfl rfl (pureEval_ok rfl) ?_)
  refine a1_done (by decide +kernel) ?_
  refine x1_then ?_
  refine c1_ret ?_
  exact x1_ret [] hs4 rfl (by repeat (first | exact Res.nil | (apply Res.tmp; rfl) | (apply Res.cell; rfl; exact (by repeat (first | exact List.Mem.head _ | apply List.Mem.tail)); rfl; rfl))) rfl ⟨rfl, q, _, hg4⟩
end R24
end Go.Proofs

set_option linter.unusedSectionVars false
set_option linter.unusedVariables false
set_option linter.unusedSimpArgs false
namespace Go.Proofs
open Go.Kin.Sg Go.Sort
namespace R24
theorem cmpI_neg {x y : Int} : cmpI x y < 0 ↔ x < y := by unfold cmpI; split <;> (try split) <;> omega
theorem cmpI_zero {x y : Int} : cmpI x y = 0 ↔ x = y := by unfold cmpI; split <;> (try split) <;> omega
theorem cmpL_cons {x y : Int} {a b : List Int} : cmpL (x :: a) (y :: b) = or2 (cmpI x y) (cmpL a b) := by
  rw [cmpL]; unfold or2 cmpI
  split <;> (try split) <;> simp_all
theorem or2_neg {x y : Int} : or2 x y < 0 ↔ x < 0 ∨ (x = 0 ∧ y < 0) := by unfold or2; split <;> omega
theorem or2_zero {x y : Int} : or2 x y = 0 ↔ x = 0 ∧ y = 0 := by unfold or2; split <;> omega
theorem cmpL_zero : ∀ {a b : List Int}, a.length = b.length → (cmpL a b = 0 ↔ a = b)
  | [], [], _ => by simp [cmpL]
  | x :: a, y :: b, h => by
    rw [cmpL_cons, or2_zero, cmpI_zero, cmpL_zero (by simpa using h)]
    simp
theorem cmpL_trans : ∀ {a b c : List Int}, a.length = b.length → b.length = c.length → cmpL a b < 0 → cmpL b c < 0 → cmpL a c < 0
  | [], [], _, _, _, h, _ => by simp [cmpL] at h
  | x :: a, y :: b, z :: c, h1, h2, h3, h4 => by
    rw [cmpL_cons, or2_neg, cmpI_neg, cmpI_zero] at *
    rcases h3 with h3 | ⟨h3, h3'⟩ <;> rcases h4 with h4 | ⟨h4, h4'⟩
    · left; omega
    · left; omega
    · left; omega
    · right; exact ⟨by omega, cmpL_trans (by simpa using h1) (by simpa using h2) h3' h4'⟩
theorem cmpL_asym : ∀ {a b : List Int}, a.length = b.length → (cmpL a b < 0 ∨ a = b ∨ cmpL b a < 0)
  | [], [], _ => .inr (.inl rfl)
  | x :: a, y :: b, h => by
    rw [cmpL_cons, cmpL_cons, or2_neg, or2_neg, cmpI_neg, cmpI_zero, cmpI_neg, cmpI_zero]
    by_cases h1 : x < y
    · exact .inl (.inl h1)
    · by_cases h2 : y < x
      · exact .inr (.inr (.inl h2))
      · have e : x = y := by omega
        subst e
        rcases cmpL_asym (a := a) (b := b) (by simpa using h) with h3 | rfl | h3
        · exact .inl (.inr ⟨rfl, h3⟩)
        · exact .inr (.inl rfl)
        · exact .inr (.inr (.inr ⟨rfl, h3⟩))
/-- how decisions are compared -/
def cmpK (k1 : Int) (a : List Int) (k2 : Int) (b : List Int) : Int := or2 (cmpI k1 k2) (cmpL a b)
theorem cmpK_zero {k1 k2 : Int} {a b : List Int} (h : a.length = b.length) : cmpK k1 a k2 b = 0 ↔ k1 = k2 ∧ a = b := by unfold cmpK; rw [or2_zero, cmpI_zero, cmpL_zero h]
theorem cmpK_tri {k1 k2 : Int} {a b : List Int} (h : a.length = b.length) : cmpK k1 a k2 b < 0 ∨ (k1 = k2 ∧ a = b) ∨ cmpK k2 b k1 a < 0 := by
  unfold cmpK
  rw [or2_neg, or2_neg, cmpI_neg, cmpI_zero, cmpI_neg, cmpI_zero]
  by_cases h1 : k1 < k2
  · exact .inl (.inl h1)
  · by_cases h2 : k2 < k1
    · exact .inr (.inr (.inl h2))
    · have e : k1 = k2 := by omega
      subst e
      rcases cmpL_asym h with h3 | rfl | h3
      · exact .inl (.inr ⟨rfl, h3⟩)
      · exact .inr (.inl ⟨rfl, rfl⟩)
      · exact .inr (.inr (.inr ⟨rfl, h3⟩))
theorem cmpK_trans {k1 k2 k3 : Int} {a b c : List Int} (h1 : a.length = b.length) (h2 : b.length = c.length) (h3 : cmpK k1 a k2 b < 0) (h4 : cmpK k2 b k3 c < 0) : cmpK k1 a k3 c < 0 := by
  unfold cmpK at *
  rw [or2_neg, cmpI_neg, cmpI_zero] at *
  rcases h3 with h3 | ⟨h3, h3'⟩ <;> rcases h4 with h4 | ⟨h4, h4'⟩
  · left; omega
  · left; omega
  · left; omega
  · right; exact ⟨by omega, cmpL_trans h1 h2 h3' h4'⟩
theorem cmpK_irrefl {k : Int} {a : List Int} : ¬ cmpK k a k a < 0 := by
  rw [(cmpK_zero rfl).2 ⟨rfl, rfl⟩]; omega
theorem swoK {α : Type} (k : α → Int) (l : α → List Int) (n : Nat) (h : ∀ x, (l x).length = n) : SWO (fun x y => decide (cmpK (k x) (l x) (k y) (l y) < 0)) where
  irrefl := fun x => decide_eq_false cmpK_irrefl
  trans := fun x y z h1 h2 => decide_eq_true (cmpK_trans (by rw [h, h]) (by rw [h, h]) (of_decide_eq_true h1) (of_decide_eq_true h2))
  ntrans := fun x y z h1 h2 => by
    have h1 := of_decide_eq_false h1
    have h2 := of_decide_eq_false h2
    refine decide_eq_false fun h3 => ?_
    rcases cmpK_tri (k1 := k x) (k2 := k y) (a := l x) (b := l y) (by rw [h, h]) with h4 | ⟨h4, h5⟩ | h4
    · exact h1 h4
    · rw [h4, h5] at h3; exact h2 h3
    · exact h2 (cmpK_trans (by rw [h, h]) (by rw [h, h]) h4 h3)
end R24
end Go.Proofs

set_option linter.unusedSectionVars false
set_option linter.unusedVariables false
set_option linter.unusedSimpArgs false
namespace Go.Proofs
open Go.RowKit Go.Kin Go.Kin.St Go.Kin.Ct Go.Kin.Sg Go.Shelf Go.Sort
namespace R24
theorem flatK_list {α : Type} [Inhabited α] (enc : α → List Value) (hk : ∀ x, (enc x).length = 3) (d : Array α) : (flatK enc 3 d).toList = (d.toList.map enc).flatten := by
  have hlen : ∀ l : List α, (l.map enc).flatten.length = l.length * 3 := fun l => by
    induction l with
    | nil => rfl
    | cons x l ih => rw [List.map_cons, List.flatten_cons, List.length_append, ih, hk, List.length_cons]; omega
  have hget : ∀ (l : List α) (t : Nat), t < l.length * 3 → (l.map enc).flatten[t]? = (enc (l.getD (t / 3) default))[t % 3]? := fun l => by
    induction l with
    | nil => intro t ht; simp at ht
    | cons x l ih =>
      intro t ht
      rw [List.map_cons, List.flatten_cons]
      by_cases h : t < 3
      · rw [List.getElem?_append_left (by rw [hk]; exact h), Nat.div_eq_of_lt h, Nat.mod_eq_of_lt h]; rfl
      · rw [List.getElem?_append_right (by rw [hk]; omega), hk, ih (t - 3) (by rw [List.length_cons] at ht; omega)]
        obtain ⟨u, rfl⟩ : ∃ u, t = u + 3 := ⟨t - 3, by omega⟩
        rw [Nat.add_sub_cancel, Nat.add_div_right u (by omega), Nat.add_mod_right]; rfl
  refine List.ext_getElem? fun t => ?_
  by_cases h : t < d.size * 3
  · rw [hget _ _ (by simpa using h), Array.getElem?_toList]
    have h2 := get_flatK enc 3 d t h
    rw [getElem!_pos _ t (by simpa using h)] at h2
    rw [Array.getElem?_eq_getElem (by simpa using h), h2]
    have h3 : t / 3 < d.size := by omega
    have h4 : d.toList.getD (t / 3) default = d[t / 3]! := by
      rw [getElem!_pos d _ h3, List.getD_eq_getElem?_getD, Array.getElem?_toList, Array.getElem?_eq_getElem h3]; rfl
    rw [h4, getElem!_pos (enc d[t / 3]!) (t % 3) (by rw [hk]; omega), List.getElem?_eq_getElem]
  · rw [List.getElem?_eq_none (by simp; omega), List.getElem?_eq_none (by rw [hlen]; simpa using h)]
theorem row_holds {α : Type} [Inhabited α] {enc : α → List Value} (hk : ∀ x, (enc x).length = 3) {d : Array α} {w : World} {b : Nat} {cs rest : List Value} {T : TypeId} (hb : w.heap[b]? = some (.cells ⟨cs ++ rest⟩ T (0, 0))) (hc : (d.toList.map enc).flatten = cs) : HoldsK enc 3 w b 0 d := by
  intro j hj
  have hl := flatK_list enc hk d
  rw [hc] at hl
  have hj2 : j < cs.length := by rw [← hl]; simpa using hj
  constructor
  · unfold World.cell?
    simp only [Nat.zero_add, hb]
    show (cs ++ rest).toArray[j]? = _
    rw [List.getElem?_toArray, List.getElem?_append_left hj2, ← hl, Array.getElem?_toList, Array.getElem?_eq_getElem hj, getElem!_pos _ j hj]; rfl
  · unfold World.frozen?
    simp [hb]
theorem row_put {α : Type} [Inhabited α] {enc : α → List Value} (hk : ∀ x, (enc x).length = 3) {d : Array α} {w : World} {b : Nat} {cs rest : List Value} {T : TypeId} (hb : w.heap[b]? = some (.cells ⟨cs ++ rest⟩ T (0, 0))) (hc : d.size * 3 = cs.length) :
    (putRowK enc 3 w b 0 d).heap[b]? = some (.cells ⟨(d.toList.map enc).flatten ++ rest⟩ T (0, 0)) := by
  unfold putRowK putRow mapBlock
  simp only [Array.getElem?_modify, if_true, hb, Option.map_some, onCells]
  have hl := flatK_list enc hk d
  congr 2
  rw [← hl]
  apply Array.ext'
  unfold putCells
  simp only [Array.toList_mapIdx, Nat.zero_le, true_and, Nat.zero_add, Nat.sub_zero, id]
  refine List.ext_getElem? fun t => ?_
  rw [List.getElem?_mapIdx]
  have hs : (flatK enc 3 d).toList.length = cs.length := by simp [hc]
  by_cases ht : t < cs.length
  · rw [List.getElem?_append_left ht, List.getElem?_append_left (by omega), List.getElem?_eq_getElem ht]
    have h3 : t < (flatK enc 3 d).size := by simpa [hc] using ht
    simp only [Option.map_some, h3, if_true]
    rw [Array.getElem?_toList, Array.getElem?_eq_getElem h3, getElem!_pos _ t h3]
  · rw [List.getElem?_append_right (by omega), List.getElem?_append_right (by omega), hs]
    have h3 : ¬ t < (flatK enc 3 d).size := by simpa [hc] using ht
    simp only [h3, if_false]
    cases rest[t - cs.length]? <;> rfl
theorem row_other {α : Type} [Inhabited α] {enc : α → List Value} {d : Array α} {w : World} {b k : Nat} (h : k ≠ b) : (putRowK enc 3 w b 0 d).heap[k]? = w.heap[k]? := by
  unfold putRowK putRow mapBlock
  simp [Array.getElem?_modify, Ne.symm h]
theorem row_size {α : Type} [Inhabited α] {enc : α → List Value} {d : Array α} {w : World} {b : Nat} : (putRowK enc 3 w b 0 d).heap.size = w.heap.size := by
  unfold putRowK putRow mapBlock
  simp
theorem sortW_same {α : Type} [Inhabited α] {enc : α → List Value} {d : Array α} {w : World} {b m : Nat} {os : Array Obj} {ks : List Nat} (h : b ∈ ks) : Same (allBut w ks) w (sortWorldK enc 3 w b 0 m d os) where
  os := rfl
  tape := rfl
  output := rfl
  size := by
    unfold sortWorldK grow
    simp only [Array.size_append, row_size]
    show w.heap.size ≤ w.heap.size + _
    omega
  block := fun k hk hD => by
    have h1 : k ≠ b := fun e => hD.2 (e ▸ h)
    unfold sortWorldK
    rw [heap_grow_old _ _ (by rw [row_size]; exact hk), row_other h1]
    rfl
theorem sortW_row {α : Type} [Inhabited α] {enc : α → List Value} (hk : ∀ x, (enc x).length = 3) {d : Array α} {w : World} {b m : Nat} {os : Array Obj} {cs rest : List Value} {T : TypeId} (hb : w.heap[b]? = some (.cells ⟨cs ++ rest⟩ T (0, 0))) (hc : d.size * 3 = cs.length) :
    (sortWorldK enc 3 w b 0 m d os).heap[b]? = some (.cells ⟨(d.toList.map enc).flatten ++ rest⟩ T (0, 0)) := by
  have h1 : (Sort.ahead w m).heap[b]? = some (.cells ⟨cs ++ rest⟩ T (0, 0)) := hb
  have h2 : b < w.heap.size := (Array.getElem?_eq_some_iff.1 hb).1
  unfold sortWorldK
  rw [heap_grow_old _ _ (by rw [row_size]; exact h2)]
  exact row_put hk h1 hc
theorem sortW_cell {α : Type} [Inhabited α] {enc : α → List Value} {d : Array α} {w : World} {b m : Nat} {os : Array Obj} {a : Addr} {v : Value} (h : w.cell? a = some v) (hne : a.block ≠ b) : (sortWorldK enc 3 w b 0 m d os).cell? a = some v := by
  have hlt := lt_of_cell h
  unfold sortWorldK
  rw [cell?_grow _ _ _ (by rw [row_size]; exact hlt)]
  unfold putRowK
  rw [cell?_putRow_other id _ _ _ _ _ (Or.inl hne)]
  exact h
/-! ## SortFunc -/
def drLe (x y : DR) : Prop := ¬ cmpK y.k y.l x.k x.l < 0
theorem drE_len {r : DR} : (drE r).length = 3 := rfl
theorem permIn_all {α : Type} [Inhabited α] {d d' : Array α} (h : PermIn 0 d.size d d') : d'.toList.Perm d.toList := by
  obtain ⟨h1, _, h3⟩ := h
  have e1 : d'.extract 0 d.size = d' := by rw [← h1]; simp
  have e2 : d.extract 0 d.size = d := by simp
  rw [e1, e2] at h3
  exact h3
theorem sortedIn_all {α : Type} [Inhabited α] {lt : α → α → Bool} {d : Array α} {n : Nat} (h : SortedIn lt 0 n d) (hn : d.size = n) : d.toList.Pairwise (fun x y => lt y x = false) := by
  rw [List.pairwise_iff_getElem]
  intro i j hi hj hij
  have h1 := h i j (Nat.zero_le _) hij (by simpa [hn] using hj)
  rw [getElem!_pos d j (by simpa using hj), getElem!_pos d i (by simpa using hi)] at h1
  simpa using h1
theorem sf57 : ∃ fs, Try.prog.underlying 57 = some (.struct fs) := by
  have h : (match Try.prog.underlying 57 with | some (.struct _) => true | _ => false) = true := by kernel_rfl
  cases h2 : Try.prog.underlying 57 with
  | none => rw [h2] at h; cases h
  | some d =>
    rw [h2] at h
    cases d <;> first | exact ⟨_, rfl⟩ | cases h
theorem sa57 : ∀ w, (isAgg 57).run Try.prog w = .ok true w := fun w => by
  obtain ⟨fs, h⟩ := sf57
  simp only [isAgg, Sem.run_bind, run_und h, Result.andThen_ok]; rfl
theorem ss57 : ∀ w, (Go.sizeOf 57).run Try.prog w = .ok 3 w := fun w => by
  cases h : Try.prog.info? 57 with
  | none =>
    have h2 : (Try.prog.info? 57).isSome = true := by kernel_rfl
    rw [h] at h2; cases h2
  | some i =>
    have h2 : (Try.prog.info? 57).map (·.size) = some 3 := by kernel_rfl
    rw [h] at h2
    rw [run_size h, show i.size = 3 by simpa using h2]
theorem sort_calls (rows : List DR) (b cap n : Nat) (rest : List Value) (w : World) (hl : ∀ r ∈ rows, r.l.length = n) (hn : n ≤ 1000) (hne : rows ≠ []) (hlen : rows.length ≤ 10000000)
    (hk : ∀ r ∈ rows, r.bk ≠ b ∧ ∀ k x, r.l[k]? = some x → w.cell? ⟨r.bk, 0 + k, none⟩ = some (.int .i64 x)) (hb : w.heap[b]? = some (.cells ⟨(rows.map drE).flatten ++ rest⟩ 57 (0, 0))) :
    Calls Try.prog 76 ⟨[.slice (some ⟨b, 0, none⟩) rows.length cap, .func (.func 59) #[] #[]]⟩ w
      (FrQ [(b, .cells ⟨(rows.map drE).flatten ++ rest⟩ 57 (0, 0))] (fun _ : { rs : List DR // rs.Perm rows ∧ rs.Pairwise drLe } => .tuple #[]) (fun i => [(b, .cells ⟨(i.1.map drE).flatten ++ rest⟩ 57 (0, 0))]) w) := by
  obtain ⟨r0, hr0⟩ := List.exists_mem_of_ne_nil _ hne
  letI : Inhabited { r : DR // r ∈ rows } := ⟨⟨r0, hr0⟩⟩
  have hd : (rows.attach.toArray.toList.map fun x : { r : DR // r ∈ rows } => drE x.1).flatten = (rows.map drE).flatten := by
    rw [show rows.attach.toArray.toList = rows.attach from rfl, show (fun x : { r : DR // r ∈ rows } => drE x.1) = drE ∘ Subtype.val from rfl, ← List.map_map, List.attach_map_subtype_val]
  have hsz : rows.attach.toArray.size = rows.length := by simp
  have hO : SWO (ltOf fun x y : { r : DR // r ∈ rows } => cmpK x.1.k x.1.l y.1.k y.1.l) := swoK (fun x : { r : DR // r ∈ rows } => (x.1.k : Int)) (fun x => x.1.l) n (fun x => hl _ x.2)
  have H := AnyQ.slices_SortFunc laySort 3 (α := { r : DR // r ∈ rows }) sa57 ss57 (fun x => drE x.1) (fun _ => rfl) (fun x v hv => by
      simp only [drE, List.mem_cons, List.not_mem_nil, or_false] at hv
      rcases hv with rfl | rfl | rfl <;> rfl) (fun x y => cmpK x.1.k x.1.l y.1.k y.1.l) hO 59 #[] b 0 cap rows.attach.toArray w (fun args w => Ent.ok args w) (by
      intro m os dk hs x y
      have h1 : ∀ (z : { r : DR // r ∈ rows }) (k : Nat) (v : Int), z.1.l[k]? = some v → (sortWorldK (fun x : { r : DR // r ∈ rows } => drE x.1) 3 w b 0 m dk os).cell? ⟨z.1.bk, 0 + k, none⟩ = some (.int .i64 v) := fun z k v hv => sortW_cell ((hk _ z.2).2 k v hv) (hk _ z.2).1
      exact compare_any x.1.k y.1.k x.1.bk 0 x.1.ck y.1.bk 0 y.1.ck x.1.l y.1.l _ _ rfl rfl _ (by rw [hl _ x.2, hl _ y.2]) (by rw [hl _ x.2]; exact hn) (h1 x) (h1 y)) (row_holds (fun _ => rfl) hb hd) (Array.getElem?_eq_some_iff.1 hb).1 (by rw [hsz]; omega)
  rw [hsz] at H
  refine H.mono ?_
  rintro e w' ⟨he, d', m, os, hp, hs, rfl⟩
  have hp2 := permIn_all (by rw [hsz]; exact hp)
  have hs2 := sortedIn_all hs (by rw [hp.1, hsz])
  refine ⟨⟨d'.toList.map (·.1), ?_, ?_⟩, he, ?_⟩
  · have h2 := hp2.map (fun x : { r : DR // r ∈ rows } => x.1)
    rwa [show rows.attach.toArray.toList = rows.attach from rfl, List.attach_map_subtype_val] at h2
  · rw [List.pairwise_map]
    exact hs2.imp fun {x y} h => of_decide_eq_false h
  · have hbl : b < w.heap.size := (Array.getElem?_eq_some_iff.1 hb).1
    refine ⟨sortW_same (by simp), fun k hkk => hkk.1, by simp, fun p hpp => ?_, closed_noJ, trivial⟩
    rw [List.mem_singleton.1 hpp]
    refine ⟨fun h => h.2 (by simp), ?_⟩
    have h3 := sortW_row (enc := fun x : { r : DR // r ∈ rows } => drE x.1) (fun _ => rfl) (d := d') (m := m) (os := os) hb (by
      rw [hp.1, hsz, dr_rows])
    rw [h3]
    simp only [List.map_map]
    rfl
end R24
end Go.Proofs

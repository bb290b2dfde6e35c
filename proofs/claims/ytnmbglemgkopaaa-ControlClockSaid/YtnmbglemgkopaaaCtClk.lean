/- Uncertain networks: the network of a clock, as the law Clock has it. Plain Lean. -/
import Derived.Test.YtnmbglemgkopaaaCtW
import Derived.Test.YtnmbglemgkopaaaCtQ
set_option linter.unusedSectionVars false
set_option linter.unusedVariables false
set_option linter.unusedSimpArgs false
namespace Go.Proofs
open Go.RowKit Go.Kin Go.Kin.St Go.Kin.Ct Go.Kin.Tm
open R22 (chk chk_0 metB metB_sol tmB tmB_iff mtB mtE mt_ok)
namespace R23
section
variable {ts : List Tp} {ps : List Ps} {ss : List Sp} {l : List Int} {N : Nat}
/-- the pause behind a bar, with the lengths that are given -/
theorem pa_psAt {len : Nat → Int} : ∀ {ps : List Ps} {o : Nat} {k : Int}, (psAt ps k = none ∧ pa len ps o k = 0) ∨ ∃ (j : Nat) (p : Ps), ps[j]? = some p ∧ p.bar = k ∧ psAt ps k = some p ∧ pa len ps o k = len (o + j)
  | [], _, _ => .inl ⟨rfl, rfl⟩
  | p :: ps, o, k => by
    by_cases h : p.bar = k
    · exact .inr ⟨0, p, rfl, h, if_pos h, if_pos h⟩
    · rcases pa_psAt (len := len) (ps := ps) (o := o + 1) (k := k) with ⟨h1, h2⟩ | ⟨j, q, h1, h0, h2, h3⟩
      · exact .inl ⟨by rw [psAt, if_neg h]; exact h1, by rw [pa, if_neg h]; exact h2⟩
      · exact .inr ⟨j + 1, q, by simpa using h1, h0, by rw [psAt, if_neg h]; exact h2, by rw [pa, if_neg h, h3, show o + 1 + j = o + (j + 1) by omega]⟩
/-- how long a bar is, with its pause -/
def nb (ts : List Tp) (ps : List Ps) (l : List Int) (i : Nat) : Int := tk ts i + pa (lenF l) ps 0 i
def bS (ts : List Tp) (ps : List Ps) (l : List Int) (k : Nat) : Int := Bt (tk ts) (pa (lenF l) ps 0) k
theorem bS_succ (k : Nat) : bS ts ps l (k + 1) = bS ts ps l k + nb ts ps l k := by unfold bS nb; rw [Bt_succ]; omega
theorem ofLk_ends (ts : List Tp) (ps : List Ps) (i : Nat) : (ofLk ts ps i).fr = i ∧ (ofLk ts ps i).to = i + 1 := by unfold ofLk; split <;> exact ⟨rfl, rfl⟩
theorem nb_in (h : Ok N ts ps ss) (hl : lensB ps l = true) {i : Nat} (hi : i < N) : (ofLk ts ps i).lo ≤ nb ts ps l i ∧ nb ts ps l i ≤ (ofLk ts ps i).hi ∧ 1 ≤ (ofLk ts ps i).lo ∧ (ofLk ts ps i).hi ≤ 1114112 := by
  have hb := h.bars i (by omega) (by omega)
  obtain ⟨g1, g2⟩ := lensB_iff.1 hl
  unfold nb ofLk
  rcases pa_psAt (len := lenF l) (ps := ps) (o := 0) (k := (i : Int)) with ⟨h1, h2⟩ | ⟨j, p, h1, h0, h2, h3⟩
  · rw [h1, h2]; simp only; omega
  · rw [h2, h3, Nat.zero_add]
    have hj := (List.getElem?_eq_some_iff.1 h1).1
    obtain ⟨x, hx⟩ : ∃ x, l[j]? = some x := ⟨_, List.getElem?_eq_getElem (by omega)⟩
    have hlx : lenF l j = x := by unfold lenF; rw [List.getD_eq_getElem?_getD, hx]; rfl
    have g3 := g2 j p x h1 hx
    have g4 := ascP_get h.ascP h1
    rw [hlx]
    simp only
    omega
theorem bS_bd (h : Ok N ts ps ss) (hl : lensB ps l = true) : ∀ {k : Nat}, k ≤ N → (k : Int) ≤ bS ts ps l k ∧ bS ts ps l k ≤ 1114112 * k
  | 0, _ => ⟨Int.le_refl _, Int.le_refl _⟩
  | k + 1, hk => by
    have h1 := bS_bd h hl (k := k) (by omega)
    have h2 := nb_in h hl (i := k) (by omega)
    rw [bS_succ]
    omega
/-- the durations: the lengths of the bars that are called -/
def dL (ts : List Tp) (ps : List Ps) (l : List Int) (k : Nat) : List Int := ((List.range k).filter fun i => !isFr ps i).map (nb ts ps l)
theorem dL_succ (k : Nat) : dL ts ps l (k + 1) = if isFr ps k = true then dL ts ps l k else dL ts ps l k ++ [nb ts ps l k] := by
  unfold dL
  rw [List.range_succ, List.filter_append, List.map_append]
  cases h : isFr ps k <;> simp [h]
theorem dL_len (k : Nat) : (dL ts ps l k).length = (clL ts ps k).length := by unfold dL clL; simp
theorem clL_more {i : Nat} : ∀ {n : Nat}, i ≤ n → ∃ m, clL ts ps n = clL ts ps i ++ m
  | 0, h => ⟨[], by rw [show i = 0 by omega, List.append_nil]⟩
  | n + 1, h => by
    by_cases he : i = n + 1
    · exact ⟨[], by rw [he, List.append_nil]⟩
    · obtain ⟨m, hm⟩ := clL_more (i := i) (n := n) (by omega)
      rw [clL_succ]
      split
      · exact ⟨m, hm⟩
      · exact ⟨m ++ [ofLk ts ps n], by rw [hm, List.append_assoc]⟩
theorem dL_more {i : Nat} : ∀ {n : Nat}, i ≤ n → ∃ m, dL ts ps l n = dL ts ps l i ++ m
  | 0, h => ⟨[], by rw [show i = 0 by omega, List.append_nil]⟩
  | n + 1, h => by
    by_cases he : i = n + 1
    · exact ⟨[], by rw [he, List.append_nil]⟩
    · obtain ⟨m, hm⟩ := dL_more (i := i) (n := n) (by omega)
      rw [dL_succ]
      split
      · exact ⟨m, hm⟩
      · exact ⟨m ++ [nb ts ps l n], by rw [hm, List.append_assoc]⟩
theorem clL_at {i n : Nat} (hi : i < n) (hc : isFr ps i = false) : (clL ts ps n)[(clL ts ps i).length]? = some (ofLk ts ps i) ∧ (clL ts ps n).take (clL ts ps i).length = clL ts ps i := by
  obtain ⟨m, hm⟩ := clL_more (ts := ts) (ps := ps) (i := i + 1) (n := n) hi
  rw [clL_succ, if_neg (by simp [hc])] at hm
  rw [hm, List.append_assoc]
  refine ⟨by rw [List.getElem?_append_right (Nat.le_refl _), Nat.sub_self]; rfl, by rw [List.take_left']; rfl⟩
theorem dL_at {i n : Nat} (hi : i < n) (hc : isFr ps i = false) : (dL ts ps l n)[(clL ts ps i).length]? = some (nb ts ps l i) := by
  obtain ⟨m, hm⟩ := dL_more (ts := ts) (ps := ps) (l := l) (i := i + 1) (n := n) hi
  rw [dL_succ, if_neg (by simp [hc])] at hm
  rw [hm, List.append_assoc, ← dL_len (l := l), List.getElem?_append_right (Nat.le_refl _), Nat.sub_self]; rfl
theorem clL_mem : ∀ {k j : Nat} {x : Lk}, (clL ts ps k)[j]? = some x → ∃ i, i < k ∧ isFr ps i = false ∧ x = ofLk ts ps i ∧ j = (clL ts ps i).length
  | 0, j, x, h => by simp [clL] at h
  | k + 1, j, x, h => by
    rw [clL_succ] at h
    cases hf : isFr ps k with
    | true =>
      rw [hf, if_pos rfl] at h
      obtain ⟨i, h1, h2⟩ := clL_mem h
      exact ⟨i, by omega, h2⟩
    | false =>
      rw [hf, if_neg (by decide)] at h
      rcases Nat.lt_or_ge j (clL ts ps k).length with hj | hj
      · rw [List.getElem?_append_left hj] at h
        obtain ⟨i, h1, h2⟩ := clL_mem h
        exact ⟨i, by omega, h2⟩
      · rw [List.getElem?_append_right hj] at h
        have hj0 : j - (clL ts ps k).length = 0 := by
          rcases Nat.eq_zero_or_pos (j - (clL ts ps k).length) with h0 | h0
          · exact h0
          · rw [List.getElem?_eq_none (by simp; omega)] at h; cases h
        rw [hj0] at h
        simp at h
        exact ⟨k, by omega, hf, h.symm, by omega⟩
theorem clL_into {i : Nat} (hi : i < N) (hc : isFr ps i = false) : into (clL ts ps N) ((i : Int) + 1) = some (clL ts ps i).length := by
  obtain ⟨h1, h2⟩ := clL_at (ts := ts) hi hc
  refine into_at (k := (clL ts ps i).length) (fun x hx => ?_) h1 (ofLk_ends ts ps i).2
  rw [h2] at hx
  obtain ⟨j, hj⟩ := List.getElem?_of_mem hx
  obtain ⟨i', g1, g2, rfl, g4⟩ := clL_mem hj
  rw [(ofLk_ends ts ps i').2]
  omega
theorem clL_free {i : Nat} (hc : isFr ps i = true) : into (clL ts ps N) ((i : Int) + 1) = none := into_no fun x hx => by
  obtain ⟨j, hj⟩ := List.getElem?_of_mem hx
  obtain ⟨i', g1, g2, rfl, g4⟩ := clL_mem hj
  rw [(ofLk_ends ts ps i').2]
  intro h
  have : i' = i := by omega
  rw [this, hc] at g2
  cases g2
theorem clL_zero : into (clL ts ps N) 0 = none := into_no fun x hx => by
  obtain ⟨j, hj⟩ := List.getElem?_of_mem hx
  obtain ⟨i', g1, g2, rfl, g4⟩ := clL_mem hj
  rw [(ofLk_ends ts ps i').2]
  omega
theorem clL_climb : ∀ (f p : Nat), p ≤ f → p ≤ N → into (clL ts ps N) (climb (clL ts ps N) f p).2 = none
  | f, 0, _, _ => by rw [show ((0 : Nat) : Int) = 0 from rfl, climb_none clL_zero]; exact clL_zero
  | 0, p + 1, h, _ => by omega
  | f + 1, p + 1, h, hN => by
    rw [show ((p + 1 : Nat) : Int) = (p : Int) + 1 by omega]
    cases hc : isFr ps p with
    | true => rw [climb_none (clL_free hc)]; exact clL_free hc
    | false =>
      obtain ⟨h1, h2⟩ := clL_at (ts := ts) (n := N) (show p < N by omega) hc
      rw [climb_some (clL_into (by omega) hc)]
      have hf : frm (clL ts ps N) (clL ts ps p).length = (p : Int) := by unfold frm; rw [h1]; exact (ofLk_ends ts ps p).1
      rw [hf]
      exact clL_climb f p (by omega) (by omega)
theorem ofLk_bd (h : Ok N ts ps ss) {i : Nat} (hi : i < N) : 1 ≤ (ofLk ts ps i).lo ∧ (ofLk ts ps i).lo ≤ (ofLk ts ps i).hi ∧ (ofLk ts ps i).hi ≤ 1114112 := by
  have hb := h.bars i (by omega) (by omega)
  unfold ofLk
  rcases pa_psAt (len := lenF []) (ps := ps) (o := 0) (k := (i : Int)) with ⟨h1, h2⟩ | ⟨j, p, h1, h0, h2, h3⟩
  · rw [h1]; simp only; omega
  · rw [h2]
    have g4 := ascP_get h.ascP h1
    simp only
    omega
theorem clk_tree (h : Ok N ts ps ss) (hN : N ≤ 63) : Ends ((N : Int) + 1) (clL ts ps N) ∧ okT ((N : Int) + 1).toNat (clL ts ps N) := by
  refine ⟨fun j x hx => ?_, fun p hp => clL_climb _ p (by omega) (by omega)⟩
  obtain ⟨i, g1, g2, rfl, g4⟩ := clL_mem hx
  obtain ⟨e1, e2⟩ := ofLk_ends ts ps i
  have hb := h.bars i (by omega) (by omega)
  refine ⟨?_, by rw [e2, g4]; exact clL_into g1 g2⟩
  unfold Cal
  rw [e1, e2]
  have := ofLk_bd h g1
  omega
theorem frL_mem {k : Nat} {x : Lk} (h : x ∈ frL ts ps k) : ∃ i, i < k ∧ isFr ps i = true ∧ x = ofLk ts ps i := by
  unfold frL at h
  obtain ⟨i, hi, rfl⟩ := List.mem_map.1 h
  obtain ⟨h1, h2⟩ := List.mem_filter.1 hi
  exact ⟨i, List.mem_range.1 h1, h2, rfl⟩
theorem clk_fine (h : Ok N ts ps ss) : St.Fine ((N + 1 : Nat) : Int) (frL ts ps N ++ spL ss) := fun x hx => by
  unfold Lk.Fine
  rcases List.mem_append.1 hx with hx | hx
  · obtain ⟨i, h1, h2, rfl⟩ := frL_mem hx
    obtain ⟨e1, e2⟩ := ofLk_ends ts ps i
    have := ofLk_bd h h1
    omega
  · unfold spL at hx
    obtain ⟨s, hs, rfl⟩ := List.mem_map.1 hx
    have := h.sps s hs
    simp only [okSp, Bool.and_eq_true, inB_iff, decide_eq_true_eq] at this
    simp only
    omega
theorem clk_chk (h : Ok N ts ps ss) (hN : N ≤ 63) (hm : (frL ts ps N ++ spL ss).length ≤ 256) : chkU ((N + 1 : Nat) : Int) (frL ts ps N ++ spL ss) (clL ts ps N) = 0 := by
  have h1 := h.n1
  have hc := clL_le ts ps N
  exact chkU_0 (chk_0 (by omega) (by omega) (clk_fine h)) (by omega) (clk_tree h hN)
/-- the times of the bars -/
def tB (ts : List Tp) (ps : List Ps) (l : List Int) (N : Nat) : List Int := (List.range (N + 1)).map (bS ts ps l)
theorem tB_len : (tB ts ps l N).length = N + 1 := by unfold tB; simp
theorem tB_get {p : Nat} (hp : p ≤ N) : (tB ts ps l N)[p]? = some (bS ts ps l p) := by unfold tB; rw [List.getElem?_map, List.getElem?_range (by omega)]; rfl
theorem clk_at (h : Ok N ts ps ss) (hN : N ≤ 63) (hm : (frL ts ps N ++ spL ss).length ≤ 256) : ∀ p : Nat, p ≤ N → at_ (clL ts ps N) (N + 1) (tf (tB ts ps l N)) (tf (dL ts ps l N)) p = bS ts ps l p
  | 0, _ => by
    obtain ⟨h1, h2⟩ := Tree.top (C := clL ts ps N) (n := N + 1) (p := ((0 : Nat) : Int)) clL_zero
    unfold at_
    rw [h1, h2, show ((0 : Nat) : Int).toNat = 0 from rfl, tf_get (tB_get (Nat.zero_le _))]
    simp [lsum]
  | p + 1, hp => by
    have hT := (chkU_ok (clk_chk h hN hm)).2.2.2.2.2
    rw [Int.toNat_natCast] at hT
    cases hc : isFr ps p with
    | true =>
      obtain ⟨h1, h2⟩ := Tree.top (C := clL ts ps N) (n := N + 1) (p := ((p + 1 : Nat) : Int)) (by rw [show ((p + 1 : Nat) : Int) = (p : Int) + 1 by omega]; exact clL_free hc)
      unfold at_
      rw [h1, h2, Int.toNat_natCast, tf_get (tB_get hp)]
      simp [lsum]
    | false =>
      have hin := clL_into (ts := ts) (N := N) (show p < N by omega) hc
      rw [show (p : Int) + 1 = ((p + 1 : Nat) : Int) by omega] at hin
      obtain ⟨q, hq, hf, hch, hr⟩ := hT.up (p := p + 1) (by omega) hin
      have hfr : frm (clL ts ps N) (clL ts ps p).length = (p : Int) := by unfold frm; rw [(clL_at (ts := ts) (n := N) (show p < N by omega) hc).1]; exact (ofLk_ends ts ps p).1
      rw [hfr] at hf
      have hqp : q = p := by omega
      subst hqp
      have ih := clk_at h hN hm q (by omega)
      unfold at_ at ih ⊢
      rw [hch, hr, bS_succ]
      simp only [lsum]
      rw [tf_get (dL_at (l := l) (show q < N by omega) hc)]
      omega
theorem clk_play (h : Ok N ts ps ss) (hl : lensB ps l = true) (hN : N ≤ 63) (hm : (frL ts ps N ++ spL ss).length ≤ 256) :
    PlayOK ((N + 1 : Nat) : Int) (frL ts ps N ++ spL ss) (clL ts ps N) (tB ts ps l N) (dL ts ps l N) ∧ plL (clL ts ps N) (N + 1) (tB ts ps l N) (dL ts ps l N) = tB ts ps l N := by
  refine ⟨⟨clk_chk h hN hm, by rw [tB_len], fun x hx => ?_, dL_len _, fun j hj => ?_⟩, ?_⟩
  · obtain ⟨p, hp, rfl⟩ := List.mem_map.1 hx
    have := bS_bd h hl (k := p) (by have := List.mem_range.1 hp; omega)
    have := List.mem_range.1 hp
    omega
  · obtain ⟨x, hx⟩ : ∃ x, (clL ts ps N)[j]? = some x := ⟨_, List.getElem?_eq_getElem hj⟩
    obtain ⟨i, g1, g2, rfl, rfl⟩ := clL_mem hx
    rw [tf_get (dL_at g1 g2)]
    unfold loOf hiOf
    rw [hx]
    have := nb_in h hl g1
    exact ⟨this.1, this.2.1⟩
  · unfold plL
    unfold tB
    apply List.map_congr_left
    intro p hp
    exact clk_at h hN hm p (by have := List.mem_range.1 hp; omega)
/-- is a span kept? -/
def spB (f : Nat → Int) (s : Sp) : Bool := decide (s.lo ≤ f s.t.toNat - f s.f.toNat) && decide (f s.t.toNat - f s.f.toNat ≤ s.hi)
theorem clk_met (h : Ok N ts ps ss) (hl : lensB ps l = true) (hN : N ≤ 63) (hm : (frL ts ps N ++ spL ss).length ≤ 256) :
    mtB ((N + 1 : Nat) : Int) (frL ts ps N ++ spL ss) (tB ts ps l N) = ss.all (spB (bS ts ps l)) ∧ mtE ((N + 1 : Nat) : Int) (frL ts ps N ++ spL ss) (tB ts ps l N) = 0 := by
  have h1 := h.n1
  have hck : chk ((N + 1 : Nat) : Int) (frL ts ps N ++ spL ss) = 0 := chk_0 (by omega) (by omega) (clk_fine h)
  have htm : tmB (tB ts ps l N) = true := by
    rw [tmB_iff]
    intro v hv
    obtain ⟨p, hp, rfl⟩ := List.mem_map.1 hv
    have := bS_bd h hl (k := p) (by have := List.mem_range.1 hp; omega)
    have := List.mem_range.1 hp
    omega
  obtain ⟨m1, m2⟩ := mt_ok hck (by rw [tB_len]) htm
  refine ⟨?_, m2⟩
  rw [m1]
  have hget : ∀ p : Nat, p ≤ N → R22.tf (tB ts ps l N) p = bS ts ps l p := fun p hp => tf_get (tB_get hp)
  unfold metB
  rw [List.all_append]
  have e1 : (frL ts ps N).all (R22.lkB (tB ts ps l N)) = true := List.all_eq_true.2 fun x hx => by
    obtain ⟨i, g1, g2, rfl⟩ := frL_mem hx
    obtain ⟨e1, e2⟩ := ofLk_ends ts ps i
    have := nb_in h hl g1
    unfold R22.lkB
    rw [e1, e2, show ((i : Int) + 1).toNat = i + 1 by omega, Int.toNat_natCast, hget _ (by omega), hget _ (by omega), bS_succ]
    exact decide_eq_true (by omega)
  rw [e1, Bool.true_and]
  unfold spL
  rw [List.all_map]
  have : ∀ (l2 : List Sp), (∀ s ∈ l2, okSp N s = true) → l2.all (R22.lkB (tB ts ps l N) ∘ fun s => (⟨s.f, s.t, s.lo, s.hi⟩ : Lk)) = l2.all (spB (bS ts ps l)) := by
    intro l2 hl2
    induction l2 with
    | nil => rfl
    | cons s l2 ih =>
      rw [List.all_cons, List.all_cons, ih fun x hx => hl2 x (List.mem_cons_of_mem _ hx)]
      congr 1
      have := hl2 s List.mem_cons_self
      simp only [okSp, Bool.and_eq_true, inB_iff, decide_eq_true_eq] at this
      show R22.lkB _ _ = _
      unfold R22.lkB spB
      simp only
      rw [hget _ (by omega), hget _ (by omega), Bool.decide_and]
  exact this ss h.sps
end
end R23
end Go.Proofs

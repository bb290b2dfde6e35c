/- Collating: rows are the codes of the witnesses, and cost as much as alignments do. Plain Lean. -/
import Derived.Test.YtobiefdkpiognaaClTb
set_option linter.unusedSectionVars false
set_option linter.unusedVariables false
set_option linter.unusedSimpArgs false
namespace Go.Kin.Cl
def nz (l : List Int) : List Int := l.filter fun c => decide (c ≠ 0)
theorem nz_app (l m : List Int) : nz (l ++ m) = nz l ++ nz m := List.filter_append ..
theorem nz_pad (l : List Int) (w : Nat) : nz (padL l w) = nz l := by
  unfold padL
  rw [nz_app]
  have : nz (List.replicate (w - l.length) 0) = [] := by unfold nz; rw [List.filter_eq_nil_iff]; intro x hx; rw [List.eq_of_mem_replicate hx]; decide
  rw [this, List.append_nil]
theorem nz_all {l : List Int} (h : ∀ c ∈ l, c ≠ 0) : nz l = l := by unfold nz; rw [List.filter_eq_self]; intro c hc; exact decide_eq_true (h c hc)
/-- what is left of a row without its zeros -/
def nzG (sg : Nat → List Int) (tp : Nat → Int) : Nat → List Int
  | 0 => nz (sg 0)
  | n + 1 => nz (sg 0) ++ nz [tp 0] ++ nzG (fun k => sg (k + 1)) (fun k => tp (k + 1)) n
/-- the same from its end -/
theorem nzG_snoc : ∀ (n : Nat) (sg : Nat → List Int) (tp : Nat → Int) (l : List Int), (∃ P : List Int, nzG sg tp n = P ++ nz (sg n) ∧ nzG sg tp (n + 1) = P ++ nz (sg n) ++ nz [tp n] ++ nz (sg (n + 1)))
  | 0, sg, tp, _ => ⟨[], by simp [nzG], by simp [nzG]⟩
  | n + 1, sg, tp, l => by
    obtain ⟨P, h1, h2⟩ := nzG_snoc n (fun k => sg (k + 1)) (fun k => tp (k + 1)) l
    refine ⟨nz (sg 0) ++ nz [tp 0] ++ P, ?_, ?_⟩
    · rw [nzG, h1]; simp
    · rw [nzG, h2]; simp
theorem nz_row (wd : Nat → Nat) (sg : Nat → List Int) (tp : Nat → Int) : ∀ n : Nat, nz (rowP wd sg tp n) ++ nz (sg n) = nzG sg tp n
  | 0 => by simp [rowP, nzG, nz]
  | n + 1 => by
    obtain ⟨P, h1, h2⟩ := nzG_snoc n sg tp []
    have h3 := nz_row wd sg tp n
    rw [h1] at h3
    rw [h2, ← h3, rowP, nz_app, nz_app, nz_pad]
    simp
theorem nz_rowL (wd : Nat → Nat) (sg : Nat → List Int) (tp : Nat → Int) (n : Nat) : nz (rowL wd sg tp n) = nzG sg tp n := by
  rw [rowL, nz_app, nz_pad, nz_row]
theorem nzG_al {a b : List Int} {m : List Mv} {c : Int} (h : Al a b m c) : nzG (alo m b) (bsc m b) a.length = nz b := by
  induction h with
  | nil => rfl
  | @both x y a b m c h ih =>
    rw [List.length_cons, nzG]
    show nz [] ++ nz [y] ++ nzG (alo m b) (bsc m b) a.length = _
    rw [ih, ← nz_app, ← nz_app]; rfl
  | @left x a b m c h ih =>
    rw [List.length_cons, nzG]
    show nz [] ++ nz [0] ++ nzG (alo m b) (bsc m b) a.length = _
    rw [ih]; rfl
  | @right y a b m c h ih =>
    have e : ∀ (n : Nat), nzG (alo (.right :: m) (y :: b)) (bsc (.right :: m) (y :: b)) n = nz [y] ++ nzG (alo m b) (bsc m b) n := by
      intro n
      cases n with
      | zero => show nz ([y] ++ alo m b 0) = _; rw [nz_app]; rfl
      | succ n =>
        rw [nzG, nzG]
        show nz ([y] ++ alo m b 0) ++ nz [bsc m b 0] ++ nzG (fun k => alo m b (k + 1)) (fun k => bsc m b (k + 1)) n = _
        rw [nz_app, List.append_assoc, List.append_assoc, List.append_assoc]
    rw [e, ih, ← nz_app]; rfl
/-! ## Costs -/
def lcC (x c : Int) : Int := if x ≠ 0 ∧ c ≠ 0 then bes x c else if x ≠ 0 ∨ c ≠ 0 then 2 else 0
def cR : List Int → List Int → Int
  | x :: l, y :: l' => lcC x y + cR l l'
  | _, _ => 0
theorem cR_app : ∀ {l l' : List Int} {m m' : List Int}, l.length = l'.length → cR (l ++ m) (l' ++ m') = cR l l' + cR m m'
  | [], [], m, m', _ => by simp [cR]
  | x :: l, y :: l', m, m', h => by
    simp only [List.length_cons] at h
    rw [List.cons_append, List.cons_append, cR, cR, cR_app (by omega)]; omega
theorem cR_zero : ∀ (n : Nat) (l : List Int), l.length ≤ n → (∀ c ∈ l, c ≠ 0) → cR (List.replicate n 0) (padL l n) = 2 * l.length
  | 0, [], _, _ => rfl
  | n + 1, [], _, h => by
    have := cR_zero n [] (Nat.zero_le _) h
    show lcC 0 0 + cR (List.replicate n 0) (padL [] n) = _
    rw [this]; decide
  | n + 1, c :: l, h1, h2 => by
    have hc := h2 c List.mem_cons_self
    have := cR_zero n l (by simp only [List.length_cons] at h1; omega) fun z hz => h2 z (List.mem_cons_of_mem _ hz)
    have e : padL (c :: l) (n + 1) = c :: padL l n := by unfold padL; simp
    rw [e, List.replicate_succ, cR, this]
    have : lcC 0 c = 2 := by unfold lcC; rw [if_neg (fun h => h.1 rfl), if_pos (.inr hc)]
    rw [this, List.length_cons]; omega
def cG (tx : Nat → Int) (sg : Nat → List Int) (tp : Nat → Int) : Nat → Int
  | 0 => 2 * (sg 0).length
  | n + 1 => 2 * (sg 0).length + lcC (tx 0) (tp 0) + cG (fun k => tx (k + 1)) (fun k => sg (k + 1)) (fun k => tp (k + 1)) n
theorem cG_snoc : ∀ (n : Nat) (tx : Nat → Int) (sg : Nat → List Int) (tp : Nat → Int), cG tx sg tp (n + 1) = cG tx sg tp n + lcC (tx n) (tp n) + 2 * (sg (n + 1)).length
  | 0, tx, sg, tp => by simp only [cG]
  | n + 1, tx, sg, tp => by
    have := cG_snoc n (fun k => tx (k + 1)) (fun k => sg (k + 1)) (fun k => tp (k + 1))
    rw [cG, this, cG]; omega
theorem cR_row {wd : Nat → Nat} {sg : Nat → List Int} {tx tp : Nat → Int} : ∀ {n : Nat}, (∀ k, k ≤ n → (sg k).length ≤ wd k ∧ ∀ c ∈ sg k, c ≠ 0) → cR (rowP wd (fun _ => []) tx n) (rowP wd sg tp n) + 2 * (sg n).length = cG tx sg tp n
  | 0, _ => by simp [rowP, cR, cG]
  | n + 1, h => by
    have ih := cR_row (wd := wd) (tx := tx) (tp := tp) (n := n) fun k hk => h k (by omega)
    have hn := h n (by omega)
    rw [cG_snoc, ← ih, rowP, rowP, cR_app (by rw [rowP_len (fun k _ => Nat.zero_le _), rowP_len fun k hk => (h k (by omega)).1]), cR_app (by rw [padL_len (Nat.zero_le _), padL_len hn.1])]
    have h2 := cR_zero (wd n) (sg n) hn.1 hn.2
    have e : padL [] (wd n) = List.replicate (wd n) 0 := rfl
    rw [e, h2]
    show _ + (_ + (lcC (tx n) (tp n) + 0)) + _ = _
    omega
theorem cR_rowL {wd : Nat → Nat} {sg : Nat → List Int} {tx tp : Nat → Int} {n : Nat} (h : ∀ k, k ≤ n → (sg k).length ≤ wd k ∧ ∀ c ∈ sg k, c ≠ 0) : cR (rowL wd (fun _ => []) tx n) (rowL wd sg tp n) = cG tx sg tp n := by
  rw [rowL, rowL, cR_app (by rw [rowP_len (fun k _ => Nat.zero_le _), rowP_len fun k hk => (h k (by omega)).1]), show padL [] (wd n) = List.replicate (wd n) 0 from rfl, cR_zero (wd n) (sg n) (h n (Nat.le_refl _)).1 (h n (Nat.le_refl _)).2]
  exact cR_row h
theorem alo_mem {b : List Int} : ∀ {a' b' : List Int} {m : List Mv} {c : Int}, Al a' b' m c → ∀ (k : Nat), ∀ z ∈ alo m b' k, z ∈ b' := by
  intro a' b' m c h
  induction h with
  | nil => intro k z hz; simp [alo] at hz
  | both h ih =>
    intro k z hz
    cases k with
    | zero => simp [alo] at hz
    | succ k => exact List.mem_cons_of_mem _ (ih k z hz)
  | left h ih =>
    intro k z hz
    cases k with
    | zero => simp [alo] at hz
    | succ k => exact ih k z hz
  | right h ih =>
    intro k z hz
    cases k with
    | zero =>
      rcases List.mem_cons.1 hz with rfl | hz
      · exact List.mem_cons_self
      · exact List.mem_cons_of_mem _ (ih 0 z hz)
    | succ k => exact List.mem_cons_of_mem _ (ih (k + 1) z hz)
theorem cG_al {a b : List Int} {m : List Mv} {c : Int} (h : Al a b m c) (ha : ∀ z ∈ a, z ≠ 0) (hb : ∀ z ∈ b, z ≠ 0) : cG (fun k => a.getD k 0) (alo m b) (bsc m b) a.length = c := by
  induction h with
  | nil => rfl
  | @both x y a b m c h ih =>
    have ih := ih (fun z hz => ha z (List.mem_cons_of_mem _ hz)) (fun z hz => hb z (List.mem_cons_of_mem _ hz))
    rw [List.length_cons, cG]
    have e : (fun k => (x :: a).getD (k + 1) 0) = fun k => a.getD k 0 := by funext k; simp
    rw [e]
    show 2 * (([] : List Int).length : Int) + lcC x y + cG _ (alo m b) (bsc m b) a.length = _
    rw [ih]
    have : lcC x y = bes x y := if_pos ⟨ha x List.mem_cons_self, hb y List.mem_cons_self⟩
    rw [this]; simp
  | @left x a b m c h ih =>
    have ih := ih (fun z hz => ha z (List.mem_cons_of_mem _ hz)) hb
    rw [List.length_cons, cG]
    have e : (fun k => (x :: a).getD (k + 1) 0) = fun k => a.getD k 0 := by funext k; simp
    rw [e]
    show 2 * (([] : List Int).length : Int) + lcC x 0 + cG _ (alo m b) (bsc m b) a.length = _
    rw [ih]
    have : lcC x 0 = 2 := by unfold lcC; rw [if_neg (fun h => h.2 rfl), if_pos (.inl (ha x List.mem_cons_self))]
    rw [this]; simp
  | @right y a b m c h ih =>
    have ih := ih ha (fun z hz => hb z (List.mem_cons_of_mem _ hz))
    have e : ∀ (n : Nat) (tx : Nat → Int), cG tx (alo (.right :: m) (y :: b)) (bsc (.right :: m) (y :: b)) n = 2 + cG tx (alo m b) (bsc m b) n := by
      intro n tx
      cases n with
      | zero => show 2 * ((y :: alo m b 0).length : Int) = 2 + 2 * ((alo m b 0).length : Int); rw [List.length_cons]; omega
      | succ n =>
        rw [cG, cG]
        show 2 * ((y :: alo m b 0).length : Int) + lcC (tx 0) (bsc m b 0) + cG _ (fun k => alo m b (k + 1)) (fun k => bsc m b (k + 1)) n = _
        rw [List.length_cons]; omega
    rw [e, ih]
/-! ## The table -/
theorem al_same : ∀ a : List Int, Al a a (a.map fun _ => .both) 0
  | [] => .nil
  | x :: a => by have := Al.both (x := x) (y := x) (al_same a); rw [bes_self, Int.add_zero] at this; exact this
theorem alo_same : ∀ (a : List Int) (k : Nat), alo (a.map fun _ => .both) a k = []
  | [], _ => rfl
  | _ :: _, 0 => rfl
  | x :: a, k + 1 => alo_same a k
theorem bsc_same : ∀ (a : List Int) (k : Nat), bsc (a.map fun _ => .both) a k = a.getD k 0
  | [], _ => by simp [bsc]
  | _ :: _, 0 => rfl
  | x :: a, k + 1 => by show bsc (a.map fun _ => .both) a k = _; rw [bsc_same a k]; simp
variable {ls : List (List Int)}
/-- each row is that of an alignment -/
theorem rowI_al (i : Nat) : ∃ m, Al (txt ls) (li ls i) m (ac (txt ls) (li ls i)) ∧ sgI ls i = alo m (li ls i) ∧ tpI ls i = bsc m (li ls i) := by
  by_cases h : i = 0
  · refine ⟨(txt ls).map fun _ => .both, ?_, ?_, ?_⟩
    · rw [h, li_0, ac_self]; exact al_same _
    · funext k; rw [h, li_0, alo_same, sgI_0]
    · funext k; rw [h, li_0, bsc_same, tpI_0]
  · exact ⟨best (txt ls) (li ls i), best_al _ _, funext (sgI_alo h), funext (tpI_bsc h)⟩
theorem rowI_nz {i : Nat} (h : ∀ c ∈ li ls i, c ≠ 0) : nz (rowI ls i) = li ls i := by
  obtain ⟨m, h1, h2, h3⟩ := rowI_al (ls := ls) i
  rw [rowI, nz_rowL, h2, h3, nzG_al h1, nz_all h]
theorem rowI_cost {i : Nat} (hi : i < ls.length) (h : ∀ c ∈ li ls i, c ≠ 0) (h0 : ∀ c ∈ txt ls, c ≠ 0) : cR (rowI ls 0) (rowI ls i) = ac (txt ls) (li ls i) := by
  obtain ⟨m, h1, h2, h3⟩ := rowI_al (ls := ls) i
  have e1 : sgI ls 0 = fun _ => [] := funext sgI_0
  have e2 : tpI ls 0 = fun k => (txt ls).getD k 0 := funext tpI_0
  rw [rowI, rowI, e1, e2, cR_rowL (fun k _ => ⟨sgI_le hi, fun c hc => ?_⟩), h2, h3, cG_al h1 h0 h]
  rw [h2] at hc
  exact h c (alo_mem (b := li ls i) h1 k c hc)
/-! ## No locus is empty -/
theorem rowP_get {wd : Nat → Nat} {sg : Nat → List Int} {tp : Nat → Int} : ∀ {n k j : Nat}, (∀ k, k < n → (sg k).length ≤ wd k) → k < n → j ≤ wd k → (rowP wd sg tp n)[atk wd k + j]? = (padL (sg k) (wd k) ++ [tp k])[j]?
  | n + 1, k, j, h, hk, hj => by
    rw [rowP]
    by_cases e : k = n
    · subst e
      rw [List.getElem?_append_right (by rw [rowP_len fun k hk => h k (by omega)]; omega), rowP_len fun k hk => h k (by omega)]
      congr 1; omega
    · have hlt := atk_mono (wd := wd) (i := k) (j := n) (by omega)
      rw [List.getElem?_append_left (by rw [rowP_len fun k hk => h k (by omega)]; omega)]
      exact rowP_get (fun k hk => h k (by omega)) (by omega) hj
theorem rowL_seg {wd : Nat → Nat} {sg : Nat → List Int} {tp : Nat → Int} {n k j : Nat} (h : ∀ k, k ≤ n → (sg k).length ≤ wd k) (hk : k ≤ n) (hj : j < (sg k).length) : (rowL wd sg tp n)[atk wd k + j]? = (sg k)[j]? := by
  have hw := h k hk
  rw [rowL]
  by_cases e : k = n
  · subst e
    rw [List.getElem?_append_right (by rw [rowP_len fun k hk => h k (by omega)]; omega), rowP_len fun k hk => h k (by omega)]
    unfold padL
    rw [show atk wd k + j - atk wd k = j by omega, List.getElem?_append_left hj]
  · have hlt := atk_mono (wd := wd) (i := k) (j := n) (by omega)
    rw [List.getElem?_append_left (by rw [rowP_len fun k hk => h k (by omega)]; omega), rowP_get (fun k hk => h k (by omega)) (by omega) (by omega)]
    unfold padL
    rw [List.append_assoc, List.getElem?_append_left hj]
theorem rowL_top {wd : Nat → Nat} {sg : Nat → List Int} {tp : Nat → Int} {n k : Nat} (h : ∀ k, k ≤ n → (sg k).length ≤ wd k) (hk : k < n) : (rowL wd sg tp n)[atk wd k + wd k]? = some (tp k) := by
  rw [rowL]
  have hlt := atk_mono (wd := wd) (i := k) (j := n) (by omega)
  rw [List.getElem?_append_left (by rw [rowP_len fun k hk => h k (by omega)]; omega), rowP_get (fun k hk => h k (by omega)) hk (Nat.le_refl _), List.getElem?_append_right (by rw [padL_len (h k (by omega))]; omega), padL_len (h k (by omega)), Nat.sub_self]
  rfl
theorem atk_find {wd : Nat → Nat} : ∀ {n p : Nat}, p < atk wd n + wd n → ∃ k j, k ≤ n ∧ p = atk wd k + j ∧ (j < wd k ∨ (j = wd k ∧ k < n))
  | 0, p, h => ⟨0, p, Nat.le_refl _, by rw [atk]; omega, .inl (by rw [atk] at h; omega)⟩
  | n + 1, p, h => by
    by_cases h1 : p < atk wd n + wd n
    · obtain ⟨k, j, h2, h3, h4⟩ := atk_find h1
      exact ⟨k, j, by omega, h3, by omega⟩
    · by_cases h2 : p = atk wd n + wd n
      · exact ⟨n, wd n, by omega, h2, .inr ⟨rfl, by omega⟩⟩
      · rw [atk] at h
        exact ⟨n + 1, p - (atk wd n + wd n + 1), Nat.le_refl _, by rw [atk]; omega, .inl (by omega)⟩
theorem wdI_hit : ∀ {n k : Nat}, 0 < wdI ls n k → ∃ i, i < n ∧ (sgI ls i k).length = wdI ls n k
  | 0, k, h => absurd h (by rw [wdI]; decide)
  | n + 1, k, h => by
    rw [wdI] at h ⊢
    by_cases e : wdI ls n k ≤ (sgI ls n k).length
    · exact ⟨n, by omega, by rw [Nat.max_eq_right e]⟩
    · rw [Nat.max_eq_left (by omega)] at h ⊢
      obtain ⟨i, h1, h2⟩ := wdI_hit h
      exact ⟨i, by omega, h2⟩
theorem row_filled {p : Nat} (hn : 0 < ls.length) (h : ∀ i, ∀ c ∈ li ls i, c ≠ 0) (hp : p < lociN ls) : ∃ i c, i < ls.length ∧ (rowI ls i)[p]? = some c ∧ c ≠ 0 := by
  obtain ⟨k, j, h1, h2, h3⟩ := atk_find hp
  rcases h3 with h3 | ⟨h3, h4⟩
  · obtain ⟨i, h5, h6⟩ := wdI_hit (ls := ls) (n := ls.length) (k := k) (by show 0 < wd ls k; omega)
    have hj : j < (sgI ls i k).length := by rw [h6]; exact h3
    refine ⟨i, (sgI ls i k)[j], h5, ?_, ?_⟩
    · rw [h2, rowI, rowL_seg (wd := wd ls) (sg := sgI ls i) (fun k _ => sgI_le h5) h1 hj, List.getElem?_eq_getElem hj]
    · obtain ⟨m, g1, g2, g3⟩ := rowI_al (ls := ls) i
      have hm : (sgI ls i k)[j] ∈ sgI ls i k := List.getElem_mem hj
      have hal : ∀ z ∈ sgI ls i k, z ∈ li ls i := by rw [g2]; exact fun z hz => alo_mem (b := li ls i) g1 k z hz
      exact h i _ (hal _ hm)
  · refine ⟨0, (txt ls).getD k 0, hn, ?_, ?_⟩
    · rw [h2, h3, rowI, rowL_top (wd := wd ls) (sg := sgI ls 0) (tp := tpI ls 0) (fun k _ => sgI_le hn) h4, tpI_0]
    · have := h 0
      rw [li_0] at this
      rw [List.getD_eq_getElem?_getD, List.getElem?_eq_getElem h4]
      exact this _ (List.getElem_mem h4)
end Go.Kin.Cl

/- Called links: the tree of points, chains, gaps. Plain Lean. -/
import Derived.Test.YtcodoembnjemkaaStNet
set_option linter.unusedSectionVars false
set_option linter.unusedVariables false
set_option linter.unusedSimpArgs false
namespace Go.Kin.Ct
open Go.Kin.St
/-- a called link that is right by itself -/
def Cal (n : Int) (x : Lk) : Prop := 0 <= x.fr /\ x.fr < n /\ 0 <= x.to /\ x.to < n /\ x.fr ≠ x.to /\ 0 <= x.lo /\ x.lo <= x.hi /\ x.hi <= 1099511627776
instance (n : Int) (x : Lk) : Decidable (Cal n x) := by unfold Cal; infer_instance
/-- the called link to a point -/
def into : List Lk -> Int -> Option Nat
 | [], _ => none
 | x :: C, p => if x.to = p then some 0 else (into C p).map (· + 1)
theorem into_some {C : List Lk} {p : Int} {i : Nat} : into C p = some i -> ∃ x, C[i]? = some x /\ x.to = p := by
 induction C generalizing i with
 | nil => intro h; cases h
 | cons x C ih =>
  intro h
  rw [into] at h
  split at h
  ·rename_i e
   cases h
   exact ⟨x, rfl, e⟩
  ·cases hj : into C p with
   | none => rw [hj] at h; cases h
   | some j =>
    rw [hj] at h
    cases h
    exact ih hj
theorem into_none {C : List Lk} {p : Int} (h : into C p = none) : ∀ x ∈ C, x.to ≠ p := by
 induction C with
 | nil => intro x hx; cases hx
 | cons y C ih =>
  rw [into] at h
  split at h
  ·cases h
  ·rename_i e
   intro x hx
   rcases List.mem_cons.1 hx with rfl | hx
   ·exact e
   ·cases hj : into C p with
    | none => exact ih hj x hx
    | some j => rw [hj] at h; cases h
theorem into_lt {C : List Lk} {p : Int} {i : Nat} (h : into C p = some i) : i < C.length := by
 obtain ⟨x, hx, _⟩ := into_some h
 exact (List.getElem?_eq_some_iff.1 hx).1
/-- where a called link begins -/
def frm (C : List Lk) (i : Nat) : Int := match C[i]? with | some x => x.fr | none => 0
/-- up to the root, in so many steps at most: the links passed, and the point that is reached -/
def climb (C : List Lk) : Nat -> Int -> List Nat × Int
 | 0, p => ([], p)
 | f + 1, p => match into C p with
   | none => ([], p)
   | some i => (i :: (climb C f (frm C i)).1, (climb C f (frm C i)).2)
theorem climb_none {C : List Lk} {p : Int} (h : into C p = none) : ∀ f, climb C f p = ([], p)
 | 0 => rfl
 | f + 1 => by rw [climb, h]
theorem climb_some {C : List Lk} {p : Int} {i : Nat} (h : into C p = some i) (f : Nat) : climb C (f + 1) p = (i :: (climb C f (frm C i)).1, (climb C f (frm C i)).2) := by rw [climb, h]
theorem climb_len (C : List Lk) : ∀ f p, (climb C f p).1.length <= f
 | 0, p => Nat.le_refl _
 | f + 1, p => by
  cases h : into C p with
  | none => rw [climb_none h]; exact Nat.zero_le _
  | some i => rw [climb_some h]; have := climb_len C f (frm C i); simp only [List.length_cons]; omega
theorem climb_stop {C : List Lk} : ∀ {f : Nat} {p : Int}, into C (climb C f p).2 = none -> ∀ g, climb C (f + g) p = climb C f p
 | 0, p, h, g => climb_none h _
 | f + 1, p, h, g => by
  cases hi : into C p with
  | none => rw [climb_none hi, climb_none hi]
  | some i =>
   rw [climb_some hi] at h ⊢
   rw [show f + 1 + g = (f + g) + 1 by omega, climb_some hi, climb_stop (f := f) h g]
theorem climb_in {n : Int} {C : List Lk} (hC : ∀ x ∈ C, Cal n x) : ∀ (f : Nat) (p : Int), 0 <= p -> p < n -> 0 <= (climb C f p).2 /\ (climb C f p).2 < n
 | 0, p, h0, h1 => ⟨h0, h1⟩
 | f + 1, p, h0, h1 => by
  cases hi : into C p with
  | none => rw [climb_none hi]; exact ⟨h0, h1⟩
  | some i =>
   rw [climb_some hi]
   obtain ⟨x, hx, _⟩ := into_some hi
   have hc := hC x (List.mem_of_getElem? hx)
   have hf : frm C i = x.fr := by unfold frm; rw [hx]
   exact climb_in hC f _ (by rw [hf]; exact hc.1) (by rw [hf]; exact hc.2.1)
theorem climb_mem {C : List Lk} : ∀ (f : Nat) (p : Int), ∀ i ∈ (climb C f p).1, i < C.length
 | 0, p, i, h => by cases h
 | f + 1, p, i, h => by
  cases hi : into C p with
  | none => rw [climb_none hi] at h; cases h
  | some j =>
   rw [climb_some hi] at h
   rcases List.mem_cons.1 h with rfl | h
   ·exact into_lt hi
   ·exact climb_mem f _ i h
/-- the called links are right -/
structure Tree (n : Nat) (C : List Lk) : Prop where
 cal : ∀ x ∈ C, Cal n x
 one : ∀ i x, C[i]? = some x -> into C x.to = some i
 ends : ∀ p : Nat, p < n -> into C (climb C n p).2 = none
/-- the links that lead to a point, the nearest one first, and its root -/
def chain (C : List Lk) (n : Nat) (p : Int) : List Nat := (climb C n p).1
def root (C : List Lk) (n : Nat) (p : Int) : Int := (climb C n p).2
theorem Tree.up {n : Nat} {C : List Lk} (h : Tree n C) {p : Nat} (hp : p < n) {i : Nat} (hi : into C p = some i) : ∃ q : Nat, q < n /\ frm C i = q /\ chain C n p = i :: chain C n q /\ root C n p = root C n q := by
 obtain ⟨x, hx, hxp⟩ := into_some hi
 have hc := h.cal x (List.mem_of_getElem? hx)
 have hf : frm C i = x.fr := by unfold frm; rw [hx]
 have hc1 := hc.1
 have hc2 := hc.2.1
 refine ⟨x.fr.toNat, by omega, by rw [hf]; omega, ?_⟩
 have hq : ((x.fr.toNat : Nat) : Int) = frm C i := by rw [hf]; omega
 obtain ⟨f, rfl⟩ : ∃ f, n = f + 1 := ⟨n - 1, by omega⟩
 have he := h.ends p hp
 rw [climb_some hi] at he
 have hs := climb_stop he 1
 unfold chain root
 rw [climb_some hi, hq, hs]
 exact ⟨rfl, rfl⟩
theorem Tree.top {n : Nat} {C : List Lk} {p : Int} (hi : into C p = none) : chain C n p = [] /\ root C n p = p := by
 unfold chain root
 rw [climb_none hi]
 exact ⟨rfl, rfl⟩
theorem Tree.root_in {n : Nat} {C : List Lk} (h : Tree n C) {p : Nat} (hp : p < n) : ∃ r : Nat, r < n /\ root C n p = r /\ into C (r : Int) = none := by
 have h1 := climb_in h.cal n p (by omega) (by omega)
 refine ⟨(root C n p).toNat, ?_, ?_, ?_⟩
 ·unfold root; omega
 ·unfold root; omega
 ·have h2 := h.ends p hp
  have h3 : (((root C n p).toNat : Nat) : Int) = (climb C n p).2 := by unfold root; omega
  rw [h3]; exact h2
theorem Tree.chain_lt {n : Nat} {C : List Lk} {p : Int} : ∀ i ∈ chain C n p, i < C.length := climb_mem n p
/-- links further up end in points that are less deep -/
theorem Tree.deep {n : Nat} {C : List Lk} (h : Tree n C) : ∀ (k : Nat) {p : Nat}, p < n -> (chain C n p).length = k -> ∀ i ∈ chain C n p, ∃ q : Nat, q < n /\ into C q = some i /\ (chain C n q).length <= k
 | 0, p, hp, hk, i, hi => by rw [List.length_eq_zero_iff.1 hk] at hi; cases hi
 | k + 1, p, hp, hk, i, hi => by
  cases hin : into C p with
  | none => rw [(Tree.top hin).1] at hi; cases hi
  | some j =>
   obtain ⟨q, hq, hf, hc, hr⟩ := h.up hp hin
   rw [hc] at hi
   rcases List.mem_cons.1 hi with rfl | hi
   ·exact ⟨p, hp, hin, by omega⟩
   ·obtain ⟨r, h1, h2, h3⟩ := h.deep k hq (by rw [hc] at hk; simpa using hk) i hi
    exact ⟨r, h1, h2, by omega⟩
theorem Tree.nodup {n : Nat} {C : List Lk} (h : Tree n C) : ∀ (k : Nat) {p : Nat}, p < n -> (chain C n p).length = k -> (chain C n p).Nodup
 | 0, p, hp, hk => by rw [List.length_eq_zero_iff.1 hk]; exact List.nodup_nil
 | k + 1, p, hp, hk => by
  cases hin : into C p with
  | none => rw [(Tree.top hin).1]; exact List.nodup_nil
  | some j =>
   obtain ⟨q, hq, hf, hc, hr⟩ := h.up hp hin
   have hk2 : (chain C n q).length = k := by rw [hc] at hk; simpa using hk
   rw [hc]
   refine List.nodup_cons.2 ⟨fun hm => ?_, h.nodup k hq hk2⟩
   obtain ⟨r, h1, h2, h3⟩ := h.deep k hq hk2 j hm
   obtain ⟨x, hx, hxr⟩ := into_some h2
   obtain ⟨y, hy, hyp⟩ := into_some hin
   rw [hx] at hy
   cases hy
   have : r = p := by omega
   subst this
   omega
/-! ## Sums -/
def lsum (f : Nat -> Int) : List Nat -> Int
 | [] => 0
 | i :: l => f i + lsum f l
theorem lsum_app (f : Nat -> Int) : ∀ l m, lsum f (l ++ m) = lsum f l + lsum f m
 | [], m => by show lsum f m = 0 + _; omega
 | i :: l, m => by rw [List.cons_append, lsum, lsum, lsum_app f l m]; omega
theorem sum_add (n : Nat) (f g : Nat -> Int) : sum n (fun i => f i + g i) = sum n f + sum n g := by
 induction n with
 | zero => rfl
 | succ n ih => simp only [sum, ih]; omega
theorem sum_congr {n : Nat} {f g : Nat -> Int} (h : ∀ i, i < n -> f i = g i) : sum n f = sum n g := by
 induction n with
 | zero => rfl
 | succ n ih => simp only [sum]; rw [ih fun i hi => h i (by omega), h n (by omega)]
theorem sum_zero (n : Nat) : sum n (fun _ => 0) = 0 := by
 induction n with
 | zero => rfl
 | succ n ih => simp only [sum, ih]; omega
theorem sum_single {n i : Nat} (hi : i < n) (v : Int) : sum n (fun j => if j = i then v else 0) = v := by
 induction n with
 | zero => omega
 | succ n ih =>
  simp only [sum]
  by_cases e : i = n
  ·subst e
   rw [if_pos rfl, sum_congr (g := fun _ => 0) fun j hj => if_neg (by omega), sum_zero]; omega
  ·rw [ih (by omega), if_neg (fun h => e h.symm)]; omega
theorem lsum_sum (f : Nat -> Int) {m : Nat} : ∀ l : List Nat, l.Nodup -> (∀ i ∈ l, i < m) -> lsum f l = sum m (fun i => if i ∈ l then f i else 0)
 | [], _, _ => by simp only [lsum]; rw [sum_congr (g := fun _ => 0) fun i _ => if_neg (by simp), sum_zero]
 | a :: l, hn, hm => by
  rw [List.nodup_cons] at hn
  rw [lsum, lsum_sum f l hn.2 fun i hi => hm i (List.mem_cons_of_mem _ hi), <- sum_single (n := m) (hm a List.mem_cons_self) (f a), <- sum_add]
  refine sum_congr fun i _ => ?_
  by_cases e : i = a
  ·subst e; rw [if_pos rfl, if_neg hn.1, if_pos List.mem_cons_self]; omega
  ·rw [if_neg e]
   by_cases h : i ∈ l
   ·rw [if_pos h, if_pos (List.mem_cons_of_mem _ h)]; omega
   ·rw [if_neg h, if_neg (fun h2 => by rcases List.mem_cons.1 h2 with h2 | h2; exact e h2; exact h h2)]; omega
/-! ## Gaps -/
def hiOf (C : List Lk) (i : Nat) : Int := match C[i]? with | some x => x.hi | none => 0
def loOf (C : List Lk) (i : Nat) : Int := match C[i]? with | some x => x.lo | none => 0
/-- what a called link adds, at most, between two points with these chains -/
def gapT (C : List Lk) (a b : List Nat) (i : Nat) : Int := if i ∈ b /\ i ∉ a then hiOf C i else if i ∈ a /\ i ∉ b then - loOf C i else 0
def gap (C : List Lk) (n : Nat) (p q : Int) : Int := sum C.length (gapT C (chain C n p) (chain C n q))
/-- the time of a point, with durations -/
def at_ (C : List Lk) (n : Nat) (t d : Nat -> Int) (p : Int) : Int := t (root C n p).toNat + lsum d (chain C n p)
def Durs (C : List Lk) (d : Nat -> Int) : Prop := ∀ i, i < C.length -> loOf C i <= d i /\ d i <= hiOf C i
theorem diff_eq {n : Nat} {C : List Lk} (h : Tree n C) {t d : Nat -> Int} {p q : Nat} (hp : p < n) (hq : q < n) :
  at_ C n t d q - at_ C n t d p = t (root C n q).toNat - t (root C n p).toNat + sum C.length (fun i => (if i ∈ chain C n q then d i else 0) + (if i ∈ chain C n p then - d i else 0)) := by
 unfold at_
 rw [lsum_sum d _ (h.nodup _ hq rfl) Tree.chain_lt, lsum_sum d _ (h.nodup _ hp rfl) Tree.chain_lt, sum_add]
 have : sum C.length (fun i => if i ∈ chain C n p then - d i else 0) = - sum C.length (fun i => if i ∈ chain C n p then d i else 0) := by
  have h0 := sum_add C.length (fun i => if i ∈ chain C n p then - d i else 0) (fun i => if i ∈ chain C n p then d i else 0)
  rw [sum_congr (g := fun _ => 0) fun i _ => by split <;> omega, sum_zero] at h0
  omega
 omega
/-- between two points it is never more than the gap -/
theorem diff_le {n : Nat} {C : List Lk} (h : Tree n C) {t d : Nat -> Int} (hd : Durs C d) {p q : Nat} (hp : p < n) (hq : q < n) :
  at_ C n t d q - at_ C n t d p <= t (root C n q).toNat - t (root C n p).toNat + gap C n p q := by
 rw [diff_eq h hp hq]
 have : sum C.length (fun i => (if i ∈ chain C n q then d i else 0) + (if i ∈ chain C n p then - d i else 0)) <= gap C n p q := by
  refine sum_le fun i hi => ?_
  have := hd i hi
  unfold gapT
  by_cases h1 : i ∈ chain C n p <;> by_cases h2 : i ∈ chain C n q <;> simp [h1, h2] <;> omega
 omega
/-- and it is as much, with the durations that are chosen so -/
def worst (C : List Lk) (n : Nat) (p q : Int) (i : Nat) : Int := if i ∈ chain C n q /\ i ∉ chain C n p then hiOf C i else loOf C i
theorem diff_worst {n : Nat} {C : List Lk} (h : Tree n C) {t : Nat -> Int} {p q : Nat} (hp : p < n) (hq : q < n) :
  at_ C n t (worst C n p q) q - at_ C n t (worst C n p q) p = t (root C n q).toNat - t (root C n p).toNat + gap C n p q := by
 rw [diff_eq h hp hq]
 have : sum C.length (fun i => (if i ∈ chain C n q then worst C n p q i else 0) + (if i ∈ chain C n p then - worst C n p q i else 0)) = gap C n p q := by
  refine sum_congr fun i hi => ?_
  unfold gapT worst
  by_cases h1 : i ∈ chain C n p <;> by_cases h2 : i ∈ chain C n q <;> simp [h1, h2] <;> omega
 omega
theorem cal_of {n : Nat} {C : List Lk} (h : Tree n C) {i : Nat} (hi : i < C.length) : 0 <= loOf C i /\ loOf C i <= hiOf C i /\ hiOf C i <= 1099511627776 := by
 have hx := List.getElem?_eq_getElem hi
 have hc := h.cal _ (List.getElem_mem hi)
 unfold loOf hiOf
 rw [hx]
 exact ⟨hc.2.2.2.2.2.1, hc.2.2.2.2.2.2.1, hc.2.2.2.2.2.2.2⟩
theorem sum_bd {m : Nat} {f : Nat -> Int} {K : Int} (h : ∀ i, i < m -> -K <= f i /\ f i <= K) : -(K * m) <= sum m f /\ sum m f <= K * m := by
 induction m with
 | zero => simp [sum]
 | succ m ih =>
  have h1 := ih fun i hi => h i (by omega)
  have h2 := h m (by omega)
  simp only [sum]
  have h3 : K * ((m + 1 : Nat) : Int) = K * m + K := by rw [Int.natCast_succ, Int.mul_add, Int.mul_one]
  omega
theorem gapT_bd {n : Nat} {C : List Lk} (h : Tree n C) (a b : List Nat) {i : Nat} (hi : i < C.length) : -1099511627776 <= gapT C a b i /\ gapT C a b i <= 1099511627776 := by
 have := cal_of h hi
 unfold gapT
 split
 ·omega
 ·split <;> omega
theorem gap_bd {n : Nat} {C : List Lk} (h : Tree n C) (p q : Int) : -(1099511627776 * (C.length : Int)) <= gap C n p q /\ gap C n p q <= 1099511627776 * (C.length : Int) := sum_bd fun i hi => gapT_bd h _ _ hi
end Go.Kin.Ct

namespace Go.Kin.Sg
open Go.Kin.St Go.Kin.Ct
/-- a game: points, the last tick, links, called links -/
structure Gm where
 n : Nat
 T : Nat
 L : List Lk
 C : List Lk
/-- what is known of a point -/
def kn (l : List Int) (q : Nat) : Int := l.getD q 0
theorem kn_get {l : List Int} {q : Nat} {x : Int} (h : l[q]? = some x) : kn l q = x := by unfold kn; rw [List.getD_eq_getElem?_getD, h]; rfl
theorem kn_at {l : List Int} {q : Nat} (h : q < l.length) : l[q]? = some (kn l q) := by
 have := List.getElem?_eq_getElem h
 rw [this, kn_get this]
theorem kn_over {l : List Int} {q : Nat} (h : l.length <= q) : kn l q = 0 := by unfold kn; rw [List.getD_eq_getElem?_getD, List.getElem?_eq_none h]; rfl
theorem kn_ext {l m : List Int} (h : l.length = m.length) (h2 : ∀ q, q < l.length -> kn l q = kn m q) : l = m := by
 apply List.ext_getElem?
 intro i
 by_cases hi : i < l.length
 ·rw [kn_at hi, kn_at (by omega), h2 i hi]
 ·rw [List.getElem?_eq_none (by omega), List.getElem?_eq_none (by omega)]
/-- points occur -/
def put (l : List Int) (S : List Nat) (v : Int) : List Int := S.foldl (fun l q => l.set q v) l
theorem put_len {v : Int} : ∀ {S : List Nat} {l : List Int}, (put l S v).length = l.length
 | [], _ => rfl
 | q :: S, l => by
  show (put (l.set q v) S v).length = _
  rw [put_len, List.length_set]
theorem kn_set {l : List Int} {q p : Nat} {v : Int} (hp : p < l.length) : kn (l.set q v) p = if p = q then v else kn l p := by
 by_cases h : p = q
 ·subst h
  rw [if_pos rfl]
  exact kn_get (by rw [List.getElem?_set]; simp [hp])
 ·rw [if_neg h]
  unfold kn
  rw [List.getD_eq_getElem?_getD, List.getD_eq_getElem?_getD, List.getElem?_set_ne (Ne.symm h)]
theorem put_kn {v : Int} {p : Nat} : ∀ {S : List Nat} {l : List Int}, p < l.length -> kn (put l S v) p = if p ∈ S then v else kn l p
 | [], l, _ => by simp [put]
 | q :: S, l, hp => by
  show kn (put (l.set q v) S v) p = _
  rw [put_kn (by rw [List.length_set]; exact hp), kn_set hp]
  by_cases h1 : p ∈ S
  ·rw [if_pos h1, if_pos (List.mem_cons_of_mem _ h1)]
  ·rw [if_neg h1]
   by_cases h2 : p = q
   ·rw [if_pos h2, if_pos (by rw [h2]; exact List.mem_cons_self)]
   ·rw [if_neg h2, if_neg (by simp [h1, h2])]
/-- putting depends on which points there are alone -/
theorem put_congr {l : List Int} {S S' : List Nat} {v : Int} (h : ∀ p, p ∈ S ↔ p ∈ S') : put l S v = put l S' v := kn_ext (by rw [put_len, put_len]) fun q hq => by
 rw [put_len] at hq
 rw [put_kn hq, put_kn hq]
 by_cases hm : q ∈ S
 ·rw [if_pos hm, if_pos ((h q).1 hm)]
 ·rw [if_neg hm, if_neg (fun g => hm ((h q).2 g))]
/-! ## What may occur -/
def lnk (C : List Lk) (q : Nat) : Option Lk := (into C q).bind fun i => C[i]?
/-- how long a called point has waited, and its link -/
def wtF (C : List Lk) (k : Int) (f : Nat -> Int) (q : Nat) : Option (Int × Lk) := match lnk C q with
 | some x => if f q = 0 /\ f x.fr.toNat ≠ 0 then some (k + 1 - f x.fr.toNat, x) else none
 | none => none
def mayF (C : List Lk) (k : Int) (f : Nat -> Int) (q : Nat) : Bool := match wtF C k f q with
 | some (m, x) => decide (x.lo <= m) && decide (m <= x.hi)
 | none => false
def dueF (C : List Lk) (k : Int) (f : Nat -> Int) (q : Nat) : Bool := match wtF C k f q with
 | some (m, x) => decide (x.lo <= m) && decide (m = x.hi)
 | none => false
def mayB (G : Gm) (k : Nat) (l : List Int) (q : Nat) : Bool := mayF G.C k (kn l) q
def dueB (G : Gm) (k : Nat) (l : List Int) (q : Nat) : Bool := dueF G.C k (kn l) q
theorem due_mayB {G : Gm} {k : Nat} {l : List Int} {q : Nat} (h : dueB G k l q = true) : mayB G k l q = true := by
 unfold dueB dueF at h
 unfold mayB mayF
 cases hw : wtF G.C k (kn l) q with
 | none => rw [hw] at h; cases h
 | some p =>
  obtain ⟨m, x⟩ := p
  rw [hw] at h
  simp only [Bool.and_eq_true, decide_eq_true_eq] at h ⊢
  omega
def may (G : Gm) (k : Nat) (l : List Int) : List Nat := (List.range G.n).filter (mayB G k l)
def due (G : Gm) (k : Nat) (l : List Int) : List Nat := (List.range G.n).filter (dueB G k l)
def free (G : Gm) (l : List Int) : List Nat := (List.range G.n).filter fun q => (into G.C q).isNone && decide (kn l q = 0)
theorem due_may {G : Gm} {k : Nat} {l : List Int} {q : Nat} (h : q ∈ due G k l) : q ∈ may G k l := by
 unfold due at h
 unfold may
 rw [List.mem_filter] at h ⊢
 exact ⟨h.1, due_mayB h.2⟩
theorem free_mem {G : Gm} {l : List Int} {q : Nat} : q ∈ free G l ↔ q < G.n /\ into G.C q = none /\ kn l q = 0 := by
 unfold free
 rw [List.mem_filter, List.mem_range, Bool.and_eq_true, decide_eq_true_eq, Option.isNone_iff_eq_none]
theorem may_lt {G : Gm} {k : Nat} {l : List Int} {q : Nat} (h : q ∈ may G k l) : q < G.n := List.mem_range.1 (List.mem_filter.1 h).1
theorem range_inc (n : Nat) : (List.range n).Pairwise (· < ·) := List.pairwise_lt_range
theorem may_inc (G : Gm) (k : Nat) (l : List Int) : (may G k l).Pairwise (· < ·) := (range_inc _).filter _
theorem due_inc (G : Gm) (k : Nat) (l : List Int) : (due G k l).Pairwise (· < ·) := (range_inc _).filter _
theorem free_inc (G : Gm) (l : List Int) : (free G l).Pairwise (· < ·) := (range_inc _).filter _
/-! ## Who wins -/
/-- all points have occurred, at ticks that are a schedule -/
def keptP (G : Gm) (l : List Int) : Prop := (∀ q, q < G.n -> kn l q ≠ 0) /\ ∀ x ∈ G.L, x.lo <= kn l x.to.toNat - kn l x.fr.toNat /\ kn l x.to.toNat - kn l x.fr.toNat <= x.hi
/-- what the others may choose -/
def Ch (G : Gm) (k : Nat) (l : List Int) (S : List Nat) : Prop := List.Sublist S (may G k l) /\ ∀ x ∈ due G k l, x ∈ S
/-- the desk wins, with so many ticks to come -/
def V (G : Gm) : Nat -> Nat -> List Int -> Prop
 | 0, _, l => keptP G l
 | f + 1, k, l => ∀ S, Ch G k l S -> ∃ D, List.Sublist D (free G (put l S (k + 1))) /\ V G f (k + 1) (put (put l S (k + 1)) D (k + 1))
/-- a strategy, by ticks and what is known -/
abbrev Tab := Nat -> List Int -> Option (List Nat)
def doD (t : Tab) (k : Nat) (l : List Int) : List Nat := (t k l).getD []
def doS (G : Gm) (t : Tab) (k : Nat) (l : List Int) : List Nat := (t k l).getD (due G k l)
/-- a strategy of the desk wins -/
def Wn (G : Gm) (t : Tab) : Nat -> Nat -> List Int -> Prop
 | 0, _, l => keptP G l
 | f + 1, k, l => ∀ S, Ch G k l S -> (∀ x ∈ doD t k (put l S (k + 1)), x ∈ free G (put l S (k + 1))) /\ Wn G t f (k + 1) (put (put l S (k + 1)) (doD t k (put l S (k + 1))) (k + 1))
/-- a strategy of the others spoils -/
def Sp (G : Gm) (t : Tab) : Nat -> Nat -> List Int -> Prop
 | 0, _, l => ¬ keptP G l
 | f + 1, k, l => (∀ x ∈ doS G t k l, x ∈ may G k l) /\ (∀ x ∈ due G k l, x ∈ doS G t k l) /\
   ∀ D, List.Sublist D (free G (put l (doS G t k l) (k + 1))) -> Sp G t f (k + 1) (put (put l (doS G t k l) (k + 1)) D (k + 1))
/-- its sets are increasing -/
def Inc (t : Tab) : Prop := ∀ k l S, t k l = some S -> S.Pairwise (· < ·)
theorem doD_inc {t : Tab} (h : Inc t) (k : Nat) (l : List Int) : (doD t k l).Pairwise (· < ·) := by
 unfold doD
 cases ht : t k l with
 | none => exact List.Pairwise.nil
 | some S => exact h k l S ht
theorem doS_inc {G : Gm} {t : Tab} (h : Inc t) (k : Nat) (l : List Int) : (doS G t k l).Pairwise (· < ·) := by
 unfold doS
 cases ht : t k l with
 | none => exact due_inc G k l
 | some S => exact h k l S ht
/-! ## Strategies that are read off the values -/
/-- positions that a strategy of the desk meets, ahead of the tick -/
inductive RD (G : Gm) (g : Nat -> List Int -> List Nat) : Nat -> List Int -> Prop
 | start : RD G g 0 (List.replicate G.n 0)
 | step {k : Nat} {l : List Int} {S : List Nat} (h : RD G g k l) (hk : k <= G.T) (hS : Ch G k l S) : RD G g (k + 1) (put (put l S (k + 1)) (g k (put l S (k + 1))) (k + 1))
theorem Wn_of {G : Gm} {t : Tab} {g : Nat -> List Int -> List Nat} (hg : ∀ k l f S, k + f = G.T -> RD G g k l -> Ch G k l S -> V G (f + 1) k l -> List.Sublist (g k (put l S (k + 1))) (free G (put l S (k + 1))) /\ V G f (k + 1) (put (put l S (k + 1)) (g k (put l S (k + 1))) (k + 1)))
  (ht : ∀ k l S, k <= G.T -> RD G g k l -> Ch G k l S -> doD t k (put l S (k + 1)) = g k (put l S (k + 1))) : ∀ (f k : Nat) (l : List Int), k + f = G.T + 1 -> RD G g k l -> V G f k l -> Wn G t f k l
 | 0, _, _, _, _, hv => hv
 | f + 1, k, l, hk, hr, hv => fun S hS => by
  obtain ⟨h1, h2⟩ := hg k l f S (by omega) hr hS hv
  have h3 := ht k l S (by omega) hr hS
  rw [h3]
  exact ⟨fun x hx => h1.subset hx, Wn_of hg ht f (k + 1) _ (by omega) (.step hr (by omega) hS) h2⟩
/-- positions that a strategy of the others meets -/
inductive RS (G : Gm) (g : Nat -> List Int -> List Nat) : Nat -> List Int -> Prop
 | start : RS G g 0 (List.replicate G.n 0)
 | step {k : Nat} {l : List Int} {D : List Nat} (h : RS G g k l) (hk : k <= G.T) (hD : List.Sublist D (free G (put l (g k l) (k + 1)))) : RS G g (k + 1) (put (put l (g k l) (k + 1)) D (k + 1))
theorem Sp_of {G : Gm} {t : Tab} {g : Nat -> List Int -> List Nat} (hg : ∀ k l f, k + f = G.T -> RS G g k l -> ¬ V G (f + 1) k l -> Ch G k l (g k l) /\ ∀ D, List.Sublist D (free G (put l (g k l) (k + 1))) -> ¬ V G f (k + 1) (put (put l (g k l) (k + 1)) D (k + 1)))
  (ht : ∀ k l, k <= G.T -> RS G g k l -> doS G t k l = g k l) : ∀ (f k : Nat) (l : List Int), k + f = G.T + 1 -> RS G g k l -> ¬ V G f k l -> Sp G t f k l
 | 0, _, _, _, _, hv => hv
 | f + 1, k, l, hk, hr, hv => by
  obtain ⟨h1, h2⟩ := hg k l f (by omega) hr hv
  have h3 := ht k l (by omega) hr
  unfold Sp
  rw [h3]
  exact ⟨fun x hx => h1.1.subset hx, h1.2, fun D hD => Sp_of hg ht f (k + 1) _ (by omega) (.step hr (by omega) hD) (h2 D hD)⟩
end Go.Kin.Sg

namespace Go.Kin.Sg
/-- of the first `i` elements those whose bits are set -/
def pick (ps : List Nat) (b i : Nat) : List Nat := ((List.range i).filter fun j => b.testBit j).map fun j => ps.getD j 0
theorem pick_succ {ps : List Nat} {b i : Nat} : pick ps b (i + 1) = if b.testBit i = true then pick ps b i ++ [ps.getD i 0] else pick ps b i := by
 unfold pick
 rw [List.range_succ, List.filter_append, List.map_append]
 cases h : b.testBit i <;> simp [h]
theorem pick_le {ps : List Nat} {b : Nat} : ∀ {i : Nat}, (pick ps b i).length <= i
 | 0 => Nat.le_refl _
 | i + 1 => by
  rw [pick_succ]
  have := pick_le (ps := ps) (b := b) (i := i)
  split
  ·rw [List.length_append]; simp; omega
  ·omega
theorem take_getD {ps : List Nat} {i : Nat} (h : i < ps.length) : ps.take (i + 1) = ps.take i ++ [ps.getD i 0] := by
 rw [List.take_add_one, List.getD_eq_getElem?_getD, List.getElem?_eq_getElem h]; rfl
theorem pick_sub {ps : List Nat} {b : Nat} : ∀ {i : Nat}, i <= ps.length -> List.Sublist (pick ps b i) (ps.take i)
 | 0, _ => List.nil_sublist _
 | i + 1, h => by
  rw [pick_succ, take_getD (by omega)]
  have := pick_sub (ps := ps) (b := b) (i := i) (by omega)
  split
  ·exact this.append (List.Sublist.refl _)
  ·exact this.trans (List.sublist_append_left _ _)
theorem pick_congr {ps : List Nat} {b c : Nat} : ∀ {i : Nat}, (∀ j, j < i -> b.testBit j = c.testBit j) -> pick ps b i = pick ps c i
 | 0, _ => rfl
 | i + 1, h => by rw [pick_succ, pick_succ, h i (by omega), pick_congr fun j hj => h j (by omega)]
theorem sub_snoc {α : Type} {S l : List α} {x : α} (h : List.Sublist S (l ++ [x])) : List.Sublist S l ∨ ∃ S', S = S' ++ [x] /\ List.Sublist S' l := by
 obtain ⟨a, b, rfl, h1, h2⟩ := List.sublist_append_iff.1 h
 cases h2 with
 | cons _ h2 =>
  cases h2
  left; rw [List.append_nil]; exact h1
 | cons_cons _ h2 =>
  cases h2
  exact .inr ⟨a, rfl, h1⟩
theorem pick_of {ps : List Nat} : ∀ {i : Nat} {S : List Nat}, i <= ps.length -> List.Sublist S (ps.take i) -> ∃ b, b < 2 ^ i /\ pick ps b i = S
 | 0, S, _, h => ⟨0, by simp, by rw [List.take_zero] at h; rw [List.sublist_nil.1 h]; rfl⟩
 | i + 1, S, hi, h => by
  rw [take_getD (by omega)] at h
  have e : 2 ^ (i + 1) = 2 ^ i + 2 ^ i := by rw [Nat.pow_succ]; omega
  rcases sub_snoc h with h2 | ⟨S', rfl, h2⟩
  ·obtain ⟨b, hb, hp⟩ := pick_of (ps := ps) (i := i) (Nat.le_of_succ_le hi) h2
   refine ⟨b, by omega, ?_⟩
   rw [pick_succ, Nat.testBit_lt_two_pow hb, if_neg (by decide), hp]
  ·obtain ⟨b, hb, hp⟩ := pick_of (ps := ps) (i := i) (Nat.le_of_succ_le hi) h2
   refine ⟨2 ^ i + b, by omega, ?_⟩
   rw [pick_succ, Nat.testBit_two_pow_add_eq, Nat.testBit_lt_two_pow hb, if_pos (by decide), pick_congr (c := b) fun j hj => Nat.testBit_two_pow_add_gt hj b, hp]
/-- is a set right -/
def okC (must S : List Nat) : Bool := must.all fun q => S.contains q
theorem okC_iff {must S : List Nat} : okC must S = true ↔ ∀ x ∈ must, x ∈ S := by
 unfold okC
 rw [List.all_eq_true]
 constructor
 ·intro h x hx; exact List.contains_iff_mem.1 (h x hx)
 ·intro h x hx; exact List.contains_iff_mem.2 (h x hx)
/-- the first `b` numbers' sets -/
def chN (ps must : List Nat) (b : Nat) : List (List Nat) := ((List.range b).map fun c => pick ps c ps.length).filter (okC must)
theorem chN_succ {ps must : List Nat} {b : Nat} : chN ps must (b + 1) = if okC must (pick ps b ps.length) = true then chN ps must b ++ [pick ps b ps.length] else chN ps must b := by
 unfold chN
 rw [List.range_succ, List.map_append, List.filter_append]
 cases h : okC must (pick ps b ps.length) <;> simp [h]
/-- all sets -/
def allCh (ps must : List Nat) : List (List Nat) := chN ps must (2 ^ ps.length)
theorem mem_allCh {ps must S : List Nat} : S ∈ allCh ps must ↔ List.Sublist S ps /\ ∀ x ∈ must, x ∈ S := by
 unfold allCh chN
 rw [List.mem_filter, List.mem_map, okC_iff]
 constructor
 ·rintro ⟨⟨b, _, rfl⟩, h⟩
  refine ⟨?_, h⟩
  have := pick_sub (ps := ps) (b := b) (Nat.le_refl ps.length)
  rwa [List.take_length] at this
 ·rintro ⟨h1, h2⟩
  obtain ⟨b, hb, hp⟩ := pick_of (Nat.le_refl ps.length) (by rwa [List.take_length])
  exact ⟨⟨b, List.mem_range.2 hb, hp⟩, h2⟩
theorem chN_pre {ps must : List Nat} : ∀ {n b : Nat}, b <= n -> ∃ r, chN ps must n = chN ps must b ++ r := by
 intro n b h
 induction n with
 | zero => obtain rfl : b = 0 := by omega
           exact ⟨[], by simp⟩
 | succ n ih =>
  by_cases e : b = n + 1
  ·subst e; exact ⟨[], by simp⟩
  ·obtain ⟨r, hr⟩ := ih (by omega)
   rw [chN_succ]
   split
   ·exact ⟨r ++ [pick ps n ps.length], by rw [hr, List.append_assoc]⟩
   ·exact ⟨r, hr⟩
/-- the set of a number that is right has its place -/
theorem chN_at {ps must : List Nat} {b : Nat} (hb : b < 2 ^ ps.length) (ho : okC must (pick ps b ps.length) = true) : (allCh ps must)[(chN ps must b).length]? = some (pick ps b ps.length) := by
 obtain ⟨r, hr⟩ := chN_pre (ps := ps) (must := must) (n := 2 ^ ps.length) (b := b + 1) hb
 unfold allCh
 rw [hr, chN_succ, if_pos ho, List.append_assoc, List.getElem?_append_right (Nat.le_refl _), Nat.sub_self]
 rfl
theorem chN_full {ps must : List Nat} : chN ps must (2 ^ ps.length) = allCh ps must := rfl
theorem ch_mem {G : Gm} {k : Nat} {l : List Int} {S : List Nat} : Ch G k l S ↔ S ∈ allCh (may G k l) (due G k l) := mem_allCh.symm
theorem free_ch {G : Gm} {l : List Int} {S : List Nat} : List.Sublist S (free G l) ↔ S ∈ allCh (free G l) [] := by
 rw [mem_allCh]
 exact ⟨fun h => ⟨h, fun x hx => by cases hx⟩, fun h => h.1⟩
end Go.Kin.Sg

namespace Go.Kin.Sg
open Classical
/-- the desk wins from a tick on -/
def Vt (G : Gm) (k : Nat) (l : List Int) : Prop := V G (G.T + 1 - k) k l
theorem Vt_end {G : Gm} {k : Nat} {l : List Int} (h : G.T < k) : Vt G k l ↔ keptP G l := by
 unfold Vt
 rw [show G.T + 1 - k = 0 by omega]
 rfl
theorem Vt_step {G : Gm} {k : Nat} {l : List Int} (h : k <= G.T) : Vt G k l ↔ ∀ S, Ch G k l S -> ∃ D, List.Sublist D (free G (put l S (k + 1))) /\ Vt G (k + 1) (put (put l S (k + 1)) D (k + 1)) := by
 unfold Vt
 rw [show G.T + 1 - k = (G.T + 1 - (k + 1)) + 1 by omega]
 rfl
noncomputable def goodD (G : Gm) (k : Nat) (q : List Int) (D : List Nat) : Bool := decide (Vt G (k + 1) (put q D (k + 1)))
/-- the desk's first good choice -/
noncomputable def fD (G : Gm) (k : Nat) (q : List Int) : Option (List Nat) := (allCh (free G q) []).find? (goodD G k q)
noncomputable def goodO (G : Gm) (k : Nat) (l : List Int) (S : List Nat) : Bool := !(fD G k (put l S (k + 1))).isSome
/-- the others' first good choice -/
noncomputable def fO (G : Gm) (k : Nat) (l : List Int) : Option (List Nat) := (allCh (may G k l) (due G k l)).find? (goodO G k l)
theorem fD_isSome {G : Gm} {k : Nat} {q : List Int} : (fD G k q).isSome = true ↔ ∃ D, List.Sublist D (free G q) /\ Vt G (k + 1) (put q D (k + 1)) := by
 unfold fD
 rw [List.find?_isSome]
 constructor
 ·rintro ⟨D, h1, h2⟩; exact ⟨D, free_ch.2 h1, of_decide_eq_true h2⟩
 ·rintro ⟨D, h1, h2⟩; exact ⟨D, free_ch.1 h1, decide_eq_true h2⟩
theorem fO_isSome {G : Gm} {k : Nat} {l : List Int} (hk : k <= G.T) : (fO G k l).isSome = true ↔ ¬ Vt G k l := by
 unfold fO
 rw [List.find?_isSome, Vt_step hk]
 constructor
 ·rintro ⟨S, h1, h2⟩ h
  unfold goodO at h2
  rw [fD_isSome.2 (h S (ch_mem.2 h1))] at h2
  cases h2
 ·intro h
  apply Classical.byContradiction
  intro h2
  apply h
  intro S hS
  apply Classical.byContradiction
  intro h3
  refine h2 ⟨S, ch_mem.1 hS, ?_⟩
  unfold goodO
  cases h4 : (fD G k (put l S (k + 1))).isSome with
  | false => rfl
  | true => exact absurd (fD_isSome.1 h4) h3
noncomputable def vB (G : Gm) (k : Nat) (l : List Int) : Bool := decide (Vt G k l)
theorem vB_step {G : Gm} {k : Nat} {l : List Int} (hk : k <= G.T) : vB G k l = !(fO G k l).isSome := by
 unfold vB
 have h := fO_isSome (l := l) hk
 cases h2 : (fO G k l).isSome with
 | true => rw [decide_eq_false (h.1 h2)]; rfl
 | false => rw [decide_eq_true (Classical.byContradiction fun g => by rw [h.2 g] at h2; cases h2)]; rfl
theorem vB_end {G : Gm} {k : Nat} {l : List Int} (hk : G.T < k) : vB G k l = decide (keptP G l) := by
 unfold vB
 exact decide_eq_decide.2 (Vt_end hk)
theorem fD_some {G : Gm} {k : Nat} {q : List Int} {D : List Nat} (h : fD G k q = some D) : List.Sublist D (free G q) /\ Vt G (k + 1) (put q D (k + 1)) :=
 ⟨free_ch.2 (List.mem_of_find?_eq_some h), of_decide_eq_true (show goodD G k q D = true from List.find?_some h)⟩
theorem fO_some {G : Gm} {k : Nat} {l : List Int} {S : List Nat} (h : fO G k l = some S) : Ch G k l S /\ ∀ D, List.Sublist D (free G (put l S (k + 1))) -> ¬ Vt G (k + 1) (put (put l S (k + 1)) D (k + 1)) := by
 refine ⟨ch_mem.2 (List.mem_of_find?_eq_some h), fun D h1 h2 => ?_⟩
 have h3 := List.find?_some h
 unfold goodO at h3
 rw [fD_isSome.2 ⟨D, h1, h2⟩] at h3
 cases h3
/-! ## What Solve and Spoil play -/
noncomputable def gD (G : Gm) (k : Nat) (q : List Int) : List Nat := (fD G k q).getD []
noncomputable def gO (G : Gm) (k : Nat) (l : List Int) : List Nat := (fO G k l).getD []
theorem gD_good {G : Gm} {k : Nat} {l : List Int} {S : List Nat} (hk : k <= G.T) (hS : Ch G k l S) (hv : Vt G k l) : fD G k (put l S (k + 1)) = some (gD G k (put l S (k + 1))) /\ List.Sublist (gD G k (put l S (k + 1))) (free G (put l S (k + 1))) /\ Vt G (k + 1) (put (put l S (k + 1)) (gD G k (put l S (k + 1))) (k + 1)) := by
 have h1 := fD_isSome.2 ((Vt_step hk).1 hv S hS)
 obtain ⟨D, hD⟩ := Option.isSome_iff_exists.1 h1
 have e : gD G k (put l S (k + 1)) = D := by unfold gD; rw [hD]; rfl
 rw [e]
 exact ⟨hD, fD_some hD⟩
theorem gO_good {G : Gm} {k : Nat} {l : List Int} (hk : k <= G.T) (hv : ¬ Vt G k l) : fO G k l = some (gO G k l) /\ Ch G k l (gO G k l) /\ ∀ D, List.Sublist D (free G (put l (gO G k l) (k + 1))) -> ¬ Vt G (k + 1) (put (put l (gO G k l) (k + 1)) D (k + 1)) := by
 have h1 := (fO_isSome hk).2 hv
 obtain ⟨S, hS⟩ := Option.isSome_iff_exists.1 h1
 have e : gO G k l = S := by unfold gO; rw [hS]; rfl
 rw [e]
 exact ⟨hS, fO_some hS⟩
/-- a decision: a tick, what is known, what is done -/
structure Dec where
 k : Int
 l : List Int
 d : List Int
def decN (k : Nat) (l : List Int) (d : List Nat) : Dec := ⟨k, l, d.map fun x : Nat => (x : Int)⟩
def dec1 (k : Nat) (l : List Int) (d : List Nat) : List Dec := if d = [] then [] else [decN k l d]
abbrev Pos := Nat × List Int
noncomputable def nxD (G : Gm) (p : Pos) : List Pos := (allCh (may G p.1 p.2) (due G p.1 p.2)).map fun S => (p.1 + 1, put (put p.2 S (p.1 + 1)) (gD G p.1 (put p.2 S (p.1 + 1))) (p.1 + 1))
noncomputable def adD (G : Gm) (p : Pos) : List Dec := (allCh (may G p.1 p.2) (due G p.1 p.2)).flatMap fun S => dec1 p.1 (put p.2 S (p.1 + 1)) (gD G p.1 (put p.2 S (p.1 + 1)))
noncomputable def nxO (G : Gm) (p : Pos) : List Pos := (allCh (free G (put p.2 (gO G p.1 p.2) (p.1 + 1))) []).map fun D => (p.1 + 1, put (put p.2 (gO G p.1 p.2) (p.1 + 1)) D (p.1 + 1))
noncomputable def adO (G : Gm) (p : Pos) : List Dec := dec1 p.1 p.2 (gO G p.1 p.2)
end Go.Kin.Sg

/- Difference constraints: the least schedule, and why n rounds reach it. Plain Lean. -/
import Derived.RangeFuncNested
import Derived.RangeFuncLeaves
import Derived.Shelf.Abstract
import Derived.WalkKit
import Derived.OwnWalkIn
import Derived.Deep.Draws
set_option linter.unusedSectionVars false
set_option linter.unusedVariables false
set_option linter.unusedSimpArgs false
namespace Go.Kin.St

/-- The time of `b` less that of `a` is at most `w`. -/
structure Ed where
 a : Nat
 b : Nat
 w : Int

def upd {α : Type} (t : Nat -> α) (i : Nat) (v : α) : Nat -> α := fun x => if x = i then v else t x

/-- All constraints are kept. -/
def Sol (E : List Ed) (t : Nat -> Int) : Prop := ∀ e ∈ E, t e.b - t e.a <= e.w

/-- All edges are between points below `n`. -/
def In (n : Nat) (E : List Ed) : Prop := ∀ e ∈ E, e.a < n /\ e.b < n

def raise (t : Nat -> Int) (e : Ed) : Nat -> Int := upd t e.a (max (t e.a) (t e.b - e.w))

def pass (E : List Ed) (t : Nat -> Int) : Nat -> Int := E.foldl raise t

/-! ## Sums and counts below n -/

def sum : Nat -> (Nat -> Int) -> Int
 | 0, _ => 0
 | n + 1, f => sum n f + f n

noncomputable def cnt : Nat -> (Nat -> Prop) -> Nat
 | 0, _ => 0
 | n + 1, p => cnt n p + (open Classical in if p n then 1 else 0)

theorem cnt_le (n : Nat) (p : Nat -> Prop) : cnt n p <= n := by
 induction n with
 | zero => simp [cnt]
 | succ n ih => simp only [cnt]; split <;> omega

/-! ## The least schedule -/

theorem sol_min {E : List Ed} {s u : Nat -> Int} (hs : Sol E s) (hu : Sol E u) : Sol E (fun x => min (s x) (u x)) := by
 intro e he
 have h1 := hs e he
 have h2 := hu e he
 simp only; omega

theorem sol_shift {E : List Ed} {s : Nat -> Int} (hs : Sol E s) (k : Int) : Sol E (fun x => s x + k) := by
 intro e he
 have h1 := hs e he
 simp only; omega

/-- `L` is the least schedule that is nowhere below `I`. -/
structure Least (n : Nat) (E : List Ed) (I L : Nat -> Int) : Prop where
 sol : Sol E L
 pos : ∀ x, x < n -> I x <= L x
 le : ∀ s, Sol E s -> (∀ x, x < n -> I x <= s x) -> ∀ x, x < n -> L x <= s x

/-! ## Passes -/

def passes (E : List Ed) : Nat -> (Nat -> Int) -> (Nat -> Int)
 | 0, t => t
 | k + 1, t => pass E (passes E k t)

/-! ## The first pass that keeps all -/

end Go.Kin.St

/-! The greatest difference of two times: lowering passes are raising passes of the network turned about. Plain Lean. -/
namespace Go.Kin.St

def neg (t : Nat -> Int) : Nat -> Int := fun x => - t x
def low (t : Nat -> Int) (e : Ed) : Nat -> Int := upd t e.b (min (t e.b) (t e.a + e.w))
/-! ## Distances, and whether they are known -/

def reach (p : (Nat -> Int) × (Nat -> Bool)) (e : Ed) : (Nat -> Int) × (Nat -> Bool) :=
 if p.2 e.a = true /\ (p.2 e.b = false ∨ p.1 e.a + e.w < p.1 e.b) then (upd p.1 e.b (p.1 e.a + e.w), upd p.2 e.b true) else p

def reachs (E : List Ed) (p : (Nat -> Int) × (Nat -> Bool)) : (Nat -> Int) × (Nat -> Bool) := E.foldl reach p

def reached (E : List Ed) : Nat -> (Nat -> Int) × (Nat -> Bool) -> (Nat -> Int) × (Nat -> Bool)
 | 0, p => p
 | k + 1, p => reachs E (reached E k p)

/-! ## What a bound means -/

/-- Between two differences lie no gaps. -/
theorem between {E : List Ed} {a b : Nat} {t u : Nat -> Int} (ht : Sol E t) (hu : Sol E u) {v : Int}
  (h1 : t b - t a <= v) (h2 : v <= u b - u a) : ∃ r, Sol E r /\ r b - r a = v := by
 refine ⟨fun x => min (u x + (- u a)) (t x + (- t a + (v - (t b - t a)))), sol_min (sol_shift hu _) (sol_shift ht _), ?_⟩
 show min (u b + - u a) (t b + (- t a + (v - (t b - t a)))) - min (u a + - u a) (t a + (- t a + (v - (t b - t a)))) = v
 omega

/-! ## Closed walks -/

def follows : Nat -> List Ed -> Prop
 | _, [] => True
 | p, e :: l => e.a = p /\ follows e.b l

def weight : List Ed -> Int
 | [] => 0
 | e :: l => e.w + weight l

end Go.Kin.St

/-! The search for a negative cycle: stamps of the last update, and why `from` leads into a negative cycle. Plain Lean. -/
namespace Go.Kin.St

/-- The state of the search: distances, the points they came from, the edges' numbers, and (a ghost) the time of the last update. -/
structure Sr where
 d : Nat -> Int
 fr : Nat -> Nat
 by_ : Nat -> Nat
 T : Nat -> Nat

/-- What holds of a point that was updated. -/
structure Pt (E : List Ed) (s : Sr) (now x : Nat) : Prop where
 le : s.T x <= now
 has : 0 < s.T x -> ∃ e, E[s.by_ x]? = some e /\ e.b = x /\ s.fr x = e.a /\ s.d e.a + e.w <= s.d x /\ s.T e.a ≠ s.T x /\
  (s.T x < s.T e.a -> s.d e.a + e.w < s.d x) /\ (E.length < s.T x -> s.T x < s.T e.a + E.length)

structure Inv (E : List Ed) (s : Sr) (now : Nat) : Prop where
 pt : ∀ x, Pt E s now x
 ed : ∀ τ, 1 <= τ -> τ <= now -> now < τ + E.length -> ∀ e, E[(τ - 1) % E.length]? = some e -> s.T e.a <= τ -> s.d e.b <= s.d e.a + e.w

/-! ## Chains -/

def iter {α : Type} (f : α -> α) : Nat -> α -> α
 | 0, x => x
 | k + 1, x => f (iter f k x)

/-- The weight of the edge by which a point was updated. -/
def wt (E : List Ed) (s : Sr) (x : Nat) : Int := match E[s.by_ x]? with | some e => e.w | none => 0

/-! ## The cycle as a closed walk -/

def edgeAt (E : List Ed) (k : Nat) : Ed := (E[k]?).getD ⟨0, 0, 0⟩

/-- The edges by which the points of the chain were updated, in the order of the walk. -/
def walked (E : List Ed) (s : Sr) (c : Nat) : Nat -> List Ed
 | 0 => []
 | p + 1 => edgeAt E (s.by_ (iter s.fr p c)) :: walked E s c p

end Go.Kin.St

/-! Networks: links and their steps. Plain Lean. -/
namespace Go.Kin.St

structure Lk where
 fr : Int
 to : Int
 lo : Int
 hi : Int
deriving DecidableEq

def up (x : Lk) : Ed := ⟨x.fr.toNat, x.to.toNat, x.hi⟩
def dn (x : Lk) : Ed := ⟨x.to.toNat, x.fr.toNat, - x.lo⟩

/-- The steps of a network, in the program's order. -/
def edges : List Lk -> List Ed
 | [] => []
 | x :: l => up x :: dn x :: edges l

/-- ... and in the specification's order. -/
def edges' : List Lk -> List Ed
 | [] => []
 | x :: l => dn x :: up x :: edges' l

/-- A link between points below `n`, with its numbers in their bounds. -/
def Lk.Fine (n : Int) (x : Lk) : Prop :=
 0 <= x.fr /\ x.fr < n /\ 0 <= x.to /\ x.to < n /\ x.fr ≠ x.to /\ -1099511627776 <= x.lo /\ x.lo <= x.hi /\ x.hi <= 1099511627776

instance (n : Int) (x : Lk) : Decidable (x.Fine n) := by unfold Lk.Fine; exact inferInstance

def Fine (n : Int) (l : List Lk) : Prop := ∀ x ∈ l, x.Fine n

instance (n : Int) (l : List Lk) : Decidable (Fine n l) := by unfold Fine; exact inferInstance

end Go.Kin.St

namespace Go.Kin.Ct
open Go.Kin.St
/-- a called link that is right by itself -/
def Cal (n : Int) (x : Lk) : Prop := 0 <= x.fr /\ x.fr < n /\ 0 <= x.to /\ x.to < n /\ x.fr ≠ x.to /\ 0 <= x.lo /\ x.lo <= x.hi /\ x.hi <= 1099511627776
instance (n : Int) (x : Lk) : Decidable (Cal n x) := by unfold Cal; infer_instance
/-- the called link to a point -/
def into : List Lk -> Int -> Option Nat
 | [], _ => none
 | x :: C, p => if x.to = p then some 0 else (into C p).map (· + 1)
theorem into_some {C : List Lk} {p : Int} {i : Nat} : into C p = some i -> ∃ x, C[i]? = some x /\ x.to = p := by
 induction C generalizing i with
 | nil => intro h; cases h
 | cons x C ih =>
  intro h
  rw [into] at h
  split at h
  ·rename_i e
   cases h
   exact ⟨x, rfl, e⟩
  ·cases hj : into C p with
   | none => rw [hj] at h; cases h
   | some j =>
    rw [hj] at h
    cases h
    exact ih hj
theorem into_none {C : List Lk} {p : Int} (h : into C p = none) : ∀ x ∈ C, x.to ≠ p := by
 induction C with
 | nil => intro x hx; cases hx
 | cons y C ih =>
  rw [into] at h
  split at h
  ·cases h
  ·rename_i e
   intro x hx
   rcases List.mem_cons.1 hx with rfl | hx
   ·exact e
   ·cases hj : into C p with
    | none => exact ih hj x hx
    | some j => rw [hj] at h; cases h
theorem into_lt {C : List Lk} {p : Int} {i : Nat} (h : into C p = some i) : i < C.length := by
 obtain ⟨x, hx, _⟩ := into_some h
 exact (List.getElem?_eq_some_iff.1 hx).1
/-- where a called link begins -/
def frm (C : List Lk) (i : Nat) : Int := match C[i]? with | some x => x.fr | none => 0
/-- up to the root, in so many steps at most: the links passed, and the point that is reached -/
def climb (C : List Lk) : Nat -> Int -> List Nat × Int
 | 0, p => ([], p)
 | f + 1, p => match into C p with
   | none => ([], p)
   | some i => (i :: (climb C f (frm C i)).1, (climb C f (frm C i)).2)
theorem climb_none {C : List Lk} {p : Int} (h : into C p = none) : ∀ f, climb C f p = ([], p)
 | 0 => rfl
 | f + 1 => by rw [climb, h]
theorem climb_some {C : List Lk} {p : Int} {i : Nat} (h : into C p = some i) (f : Nat) : climb C (f + 1) p = (i :: (climb C f (frm C i)).1, (climb C f (frm C i)).2) := by rw [climb, h]
theorem climb_len (C : List Lk) : ∀ f p, (climb C f p).1.length <= f
 | 0, p => Nat.le_refl _
 | f + 1, p => by
  cases h : into C p with
  | none => rw [climb_none h]; exact Nat.zero_le _
  | some i => rw [climb_some h]; have := climb_len C f (frm C i); simp only [List.length_cons]; omega
theorem climb_stop {C : List Lk} : ∀ {f : Nat} {p : Int}, into C (climb C f p).2 = none -> ∀ g, climb C (f + g) p = climb C f p
 | 0, p, h, g => climb_none h _
 | f + 1, p, h, g => by
  cases hi : into C p with
  | none => rw [climb_none hi, climb_none hi]
  | some i =>
   rw [climb_some hi] at h ⊢
   rw [show f + 1 + g = (f + g) + 1 by omega, climb_some hi, climb_stop (f := f) h g]
theorem climb_in {n : Int} {C : List Lk} (hC : ∀ x ∈ C, Cal n x) : ∀ (f : Nat) (p : Int), 0 <= p -> p < n -> 0 <= (climb C f p).2 /\ (climb C f p).2 < n
 | 0, p, h0, h1 => ⟨h0, h1⟩
 | f + 1, p, h0, h1 => by
  cases hi : into C p with
  | none => rw [climb_none hi]; exact ⟨h0, h1⟩
  | some i =>
   rw [climb_some hi]
   obtain ⟨x, hx, _⟩ := into_some hi
   have hc := hC x (List.mem_of_getElem? hx)
   have hf : frm C i = x.fr := by unfold frm; rw [hx]
   exact climb_in hC f _ (by rw [hf]; exact hc.1) (by rw [hf]; exact hc.2.1)
/-- the called links are right -/
structure Tree (n : Nat) (C : List Lk) : Prop where
 cal : ∀ x ∈ C, Cal n x
 one : ∀ i x, C[i]? = some x -> into C x.to = some i
 ends : ∀ p : Nat, p < n -> into C (climb C n p).2 = none
/-- the links that lead to a point, the nearest one first, and its root -/
def chain (C : List Lk) (n : Nat) (p : Int) : List Nat := (climb C n p).1
def root (C : List Lk) (n : Nat) (p : Int) : Int := (climb C n p).2
/-! ## Sums -/
def lsum (f : Nat -> Int) : List Nat -> Int
 | [] => 0
 | i :: l => f i + lsum f l
/-! ## Gaps -/
/-- the time of a point, with durations -/
def at_ (C : List Lk) (n : Nat) (t d : Nat -> Int) (p : Int) : Int := t (root C n p).toNat + lsum d (chain C n p)
end Go.Kin.Ct

namespace Go.Kin.Sg
open Go.Kin.St Go.Kin.Ct
/-- a game: points, the last tick, links, called links -/
structure Gm where
 n : Nat
 T : Nat
 L : List Lk
 C : List Lk
/-- what is known of a point -/
def kn (l : List Int) (q : Nat) : Int := l.getD q 0
theorem kn_get {l : List Int} {q : Nat} {x : Int} (h : l[q]? = some x) : kn l q = x := by unfold kn; rw [List.getD_eq_getElem?_getD, h]; rfl
theorem kn_at {l : List Int} {q : Nat} (h : q < l.length) : l[q]? = some (kn l q) := by
 have := List.getElem?_eq_getElem h
 rw [this, kn_get this]
theorem kn_over {l : List Int} {q : Nat} (h : l.length <= q) : kn l q = 0 := by unfold kn; rw [List.getD_eq_getElem?_getD, List.getElem?_eq_none h]; rfl
theorem kn_ext {l m : List Int} (h : l.length = m.length) (h2 : ∀ q, q < l.length -> kn l q = kn m q) : l = m := by
 apply List.ext_getElem?
 intro i
 by_cases hi : i < l.length
 ·rw [kn_at hi, kn_at (by omega), h2 i hi]
 ·rw [List.getElem?_eq_none (by omega), List.getElem?_eq_none (by omega)]
/-- points occur -/
def put (l : List Int) (S : List Nat) (v : Int) : List Int := S.foldl (fun l q => l.set q v) l
theorem put_len {v : Int} : ∀ {S : List Nat} {l : List Int}, (put l S v).length = l.length
 | [], _ => rfl
 | q :: S, l => by
  show (put (l.set q v) S v).length = _
  rw [put_len, List.length_set]
theorem kn_set {l : List Int} {q p : Nat} {v : Int} (hp : p < l.length) : kn (l.set q v) p = if p = q then v else kn l p := by
 by_cases h : p = q
 ·subst h
  rw [if_pos rfl]
  exact kn_get (by rw [List.getElem?_set]; simp [hp])
 ·rw [if_neg h]
  unfold kn
  rw [List.getD_eq_getElem?_getD, List.getD_eq_getElem?_getD, List.getElem?_set_ne (Ne.symm h)]
theorem put_kn {v : Int} {p : Nat} : ∀ {S : List Nat} {l : List Int}, p < l.length -> kn (put l S v) p = if p ∈ S then v else kn l p
 | [], l, _ => by simp [put]
 | q :: S, l, hp => by
  show kn (put (l.set q v) S v) p = _
  rw [put_kn (by rw [List.length_set]; exact hp), kn_set hp]
  by_cases h1 : p ∈ S
  ·rw [if_pos h1, if_pos (List.mem_cons_of_mem _ h1)]
  ·rw [if_neg h1]
   by_cases h2 : p = q
   ·rw [if_pos h2, if_pos (by rw [h2]; exact List.mem_cons_self)]
   ·rw [if_neg h2, if_neg (by simp [h1, h2])]
/-- putting depends on which points there are alone -/
theorem put_congr {l : List Int} {S S' : List Nat} {v : Int} (h : ∀ p, p ∈ S ↔ p ∈ S') : put l S v = put l S' v := kn_ext (by rw [put_len, put_len]) fun q hq => by
 rw [put_len] at hq
 rw [put_kn hq, put_kn hq]
 by_cases hm : q ∈ S
 ·rw [if_pos hm, if_pos ((h q).1 hm)]
 ·rw [if_neg hm, if_neg (fun g => hm ((h q).2 g))]
/-! ## What may occur -/
def lnk (C : List Lk) (q : Nat) : Option Lk := (into C q).bind fun i => C[i]?
/-- how long a called point has waited, and its link -/
def wtF (C : List Lk) (k : Int) (f : Nat -> Int) (q : Nat) : Option (Int × Lk) := match lnk C q with
 | some x => if f q = 0 /\ f x.fr.toNat ≠ 0 then some (k + 1 - f x.fr.toNat, x) else none
 | none => none
def mayF (C : List Lk) (k : Int) (f : Nat -> Int) (q : Nat) : Bool := match wtF C k f q with
 | some (m, x) => decide (x.lo <= m) && decide (m <= x.hi)
 | none => false
def dueF (C : List Lk) (k : Int) (f : Nat -> Int) (q : Nat) : Bool := match wtF C k f q with
 | some (m, x) => decide (x.lo <= m) && decide (m = x.hi)
 | none => false
def mayB (G : Gm) (k : Nat) (l : List Int) (q : Nat) : Bool := mayF G.C k (kn l) q
def dueB (G : Gm) (k : Nat) (l : List Int) (q : Nat) : Bool := dueF G.C k (kn l) q
theorem due_mayB {G : Gm} {k : Nat} {l : List Int} {q : Nat} (h : dueB G k l q = true) : mayB G k l q = true := by
 unfold dueB dueF at h
 unfold mayB mayF
 cases hw : wtF G.C k (kn l) q with
 | none => rw [hw] at h; cases h
 | some p =>
  obtain ⟨m, x⟩ := p
  rw [hw] at h
  simp only [Bool.and_eq_true, decide_eq_true_eq] at h ⊢
  omega
def may (G : Gm) (k : Nat) (l : List Int) : List Nat := (List.range G.n).filter (mayB G k l)
def due (G : Gm) (k : Nat) (l : List Int) : List Nat := (List.range G.n).filter (dueB G k l)
def free (G : Gm) (l : List Int) : List Nat := (List.range G.n).filter fun q => (into G.C q).isNone && decide (kn l q = 0)
theorem due_may {G : Gm} {k : Nat} {l : List Int} {q : Nat} (h : q ∈ due G k l) : q ∈ may G k l := by
 unfold due at h
 unfold may
 rw [List.mem_filter] at h ⊢
 exact ⟨h.1, due_mayB h.2⟩
theorem free_mem {G : Gm} {l : List Int} {q : Nat} : q ∈ free G l ↔ q < G.n /\ into G.C q = none /\ kn l q = 0 := by
 unfold free
 rw [List.mem_filter, List.mem_range, Bool.and_eq_true, decide_eq_true_eq, Option.isNone_iff_eq_none]
theorem may_lt {G : Gm} {k : Nat} {l : List Int} {q : Nat} (h : q ∈ may G k l) : q < G.n := List.mem_range.1 (List.mem_filter.1 h).1
theorem range_inc (n : Nat) : (List.range n).Pairwise (· < ·) := List.pairwise_lt_range
theorem may_inc (G : Gm) (k : Nat) (l : List Int) : (may G k l).Pairwise (· < ·) := (range_inc _).filter _
theorem due_inc (G : Gm) (k : Nat) (l : List Int) : (due G k l).Pairwise (· < ·) := (range_inc _).filter _
theorem free_inc (G : Gm) (l : List Int) : (free G l).Pairwise (· < ·) := (range_inc _).filter _
/-! ## Who wins -/
/-- all points have occurred, at ticks that are a schedule -/
def keptP (G : Gm) (l : List Int) : Prop := (∀ q, q < G.n -> kn l q ≠ 0) /\ ∀ x ∈ G.L, x.lo <= kn l x.to.toNat - kn l x.fr.toNat /\ kn l x.to.toNat - kn l x.fr.toNat <= x.hi
/-- what the others may choose -/
def Ch (G : Gm) (k : Nat) (l : List Int) (S : List Nat) : Prop := List.Sublist S (may G k l) /\ ∀ x ∈ due G k l, x ∈ S
/-- the desk wins, with so many ticks to come -/
def V (G : Gm) : Nat -> Nat -> List Int -> Prop
 | 0, _, l => keptP G l
 | f + 1, k, l => ∀ S, Ch G k l S -> ∃ D, List.Sublist D (free G (put l S (k + 1))) /\ V G f (k + 1) (put (put l S (k + 1)) D (k + 1))
/-- a strategy, by ticks and what is known -/
abbrev Tab := Nat -> List Int -> Option (List Nat)
def doD (t : Tab) (k : Nat) (l : List Int) : List Nat := (t k l).getD []
def doS (G : Gm) (t : Tab) (k : Nat) (l : List Int) : List Nat := (t k l).getD (due G k l)
/-- a strategy of the desk wins -/
def Wn (G : Gm) (t : Tab) : Nat -> Nat -> List Int -> Prop
 | 0, _, l => keptP G l
 | f + 1, k, l => ∀ S, Ch G k l S -> (∀ x ∈ doD t k (put l S (k + 1)), x ∈ free G (put l S (k + 1))) /\ Wn G t f (k + 1) (put (put l S (k + 1)) (doD t k (put l S (k + 1))) (k + 1))
/-- a strategy of the others spoils -/
def Sp (G : Gm) (t : Tab) : Nat -> Nat -> List Int -> Prop
 | 0, _, l => ¬ keptP G l
 | f + 1, k, l => (∀ x ∈ doS G t k l, x ∈ may G k l) /\ (∀ x ∈ due G k l, x ∈ doS G t k l) /\
   ∀ D, List.Sublist D (free G (put l (doS G t k l) (k + 1))) -> Sp G t f (k + 1) (put (put l (doS G t k l) (k + 1)) D (k + 1))
/-- its sets are increasing -/
def Inc (t : Tab) : Prop := ∀ k l S, t k l = some S -> S.Pairwise (· < ·)
theorem doD_inc {t : Tab} (h : Inc t) (k : Nat) (l : List Int) : (doD t k l).Pairwise (· < ·) := by
 unfold doD
 cases ht : t k l with
 | none => exact List.Pairwise.nil
 | some S => exact h k l S ht
theorem doS_inc {G : Gm} {t : Tab} (h : Inc t) (k : Nat) (l : List Int) : (doS G t k l).Pairwise (· < ·) := by
 unfold doS
 cases ht : t k l with
 | none => exact due_inc G k l
 | some S => exact h k l S ht
/-! ## Strategies that are read off the values -/
/-- positions that a strategy of the desk meets, ahead of the tick -/
inductive RD (G : Gm) (g : Nat -> List Int -> List Nat) : Nat -> List Int -> Prop
 | start : RD G g 0 (List.replicate G.n 0)
 | step {k : Nat} {l : List Int} {S : List Nat} (h : RD G g k l) (hk : k <= G.T) (hS : Ch G k l S) : RD G g (k + 1) (put (put l S (k + 1)) (g k (put l S (k + 1))) (k + 1))
theorem Wn_of {G : Gm} {t : Tab} {g : Nat -> List Int -> List Nat} (hg : ∀ k l f S, k + f = G.T -> RD G g k l -> Ch G k l S -> V G (f + 1) k l -> List.Sublist (g k (put l S (k + 1))) (free G (put l S (k + 1))) /\ V G f (k + 1) (put (put l S (k + 1)) (g k (put l S (k + 1))) (k + 1)))
  (ht : ∀ k l S, k <= G.T -> RD G g k l -> Ch G k l S -> doD t k (put l S (k + 1)) = g k (put l S (k + 1))) : ∀ (f k : Nat) (l : List Int), k + f = G.T + 1 -> RD G g k l -> V G f k l -> Wn G t f k l
 | 0, _, _, _, _, hv => hv
 | f + 1, k, l, hk, hr, hv => fun S hS => by
  obtain ⟨h1, h2⟩ := hg k l f S (by omega) hr hS hv
  have h3 := ht k l S (by omega) hr hS
  rw [h3]
  exact ⟨fun x hx => h1.subset hx, Wn_of hg ht f (k + 1) _ (by omega) (.step hr (by omega) hS) h2⟩
/-- positions that a strategy of the others meets -/
inductive RS (G : Gm) (g : Nat -> List Int -> List Nat) : Nat -> List Int -> Prop
 | start : RS G g 0 (List.replicate G.n 0)
 | step {k : Nat} {l : List Int} {D : List Nat} (h : RS G g k l) (hk : k <= G.T) (hD : List.Sublist D (free G (put l (g k l) (k + 1)))) : RS G g (k + 1) (put (put l (g k l) (k + 1)) D (k + 1))
theorem Sp_of {G : Gm} {t : Tab} {g : Nat -> List Int -> List Nat} (hg : ∀ k l f, k + f = G.T -> RS G g k l -> ¬ V G (f + 1) k l -> Ch G k l (g k l) /\ ∀ D, List.Sublist D (free G (put l (g k l) (k + 1))) -> ¬ V G f (k + 1) (put (put l (g k l) (k + 1)) D (k + 1)))
  (ht : ∀ k l, k <= G.T -> RS G g k l -> doS G t k l = g k l) : ∀ (f k : Nat) (l : List Int), k + f = G.T + 1 -> RS G g k l -> ¬ V G f k l -> Sp G t f k l
 | 0, _, _, _, _, hv => hv
 | f + 1, k, l, hk, hr, hv => by
  obtain ⟨h1, h2⟩ := hg k l f (by omega) hr hv
  have h3 := ht k l (by omega) hr
  unfold Sp
  rw [h3]
  exact ⟨fun x hx => h1.1.subset hx, h1.2, fun D hD => Sp_of hg ht f (k + 1) _ (by omega) (.step hr (by omega) hD) (h2 D hD)⟩
end Go.Kin.Sg

namespace Go.Kin.Sg
open Go.Kin.St Go.Kin.Ct
/-- one step of the specification's sets -/
def setS (all : List Nat) (x : Nat) (s : List Nat) : List (List Nat) := if x ∈ all then [s ++ [x]] else [s, s ++ [x]]
def setsF (all l : List Nat) : List (List Nat) := l.foldl (fun out x => out.flatMap (setS all x)) [[]]
theorem setsF_add {all l : List Nat} {x : Nat} : setsF all (l ++ [x]) = (setsF all l).flatMap (setS all x) := by
 unfold setsF; rw [List.foldl_append]; rfl
theorem setsF_take {all l : List Nat} {i x : Nat} (h : l[i]? = some x) : setsF all (l.take (i + 1)) = (setsF all (l.take i)).flatMap (setS all x) := by
 rw [List.take_add_one, h]; exact setsF_add
theorem setS_mem {all : List Nat} {x : Nat} {s S : List Nat} : S ∈ setS all x s ↔ S = s ++ [x] ∨ (x ∉ all /\ S = s) := by
 unfold setS
 by_cases h : x ∈ all
 ·rw [if_pos h]; simp [h]
 ·rw [if_neg h]; simp only [List.mem_cons, List.not_mem_nil, or_false, h, not_false_eq_true, true_and]; exact Or.comm
theorem setsF_mem {all : List Nat} : ∀ (n : Nat) (l : List Nat), l.length = n -> l.Nodup -> ∀ S, S ∈ setsF all l ↔ List.Sublist S l /\ ∀ y ∈ all, y ∈ l -> y ∈ S := by
 intro n
 induction n with
 | zero =>
  intro l hl _ S
  obtain rfl := List.eq_nil_of_length_eq_zero hl
  show S ∈ [[]] ↔ _
  rw [List.mem_singleton]
  exact ⟨fun h => by subst h; exact ⟨List.nil_sublist _, fun y _ h => by cases h⟩, fun h => List.sublist_nil.1 h.1⟩
 | succ n ih =>
  intro l hl hnd S
  have hne : l ≠ [] := fun h => by rw [h] at hl; cases hl
  obtain ⟨l', x, rfl⟩ : ∃ l' x, l = l' ++ [x] := ⟨l.dropLast, l.getLast hne, (List.dropLast_concat_getLast hne).symm⟩
  rw [List.length_append] at hl
  rw [List.nodup_append] at hnd
  have hx : x ∉ l' := fun h => hnd.2.2 x h x (List.mem_singleton.2 rfl) rfl
  have hI := ih l' (by simpa using hl) hnd.1
  rw [setsF_add, List.mem_flatMap]
  constructor
  ·rintro ⟨s, hs, hS⟩
   obtain ⟨h1, h2⟩ := (hI s).1 hs
   rcases setS_mem.1 hS with rfl | ⟨hxa, rfl⟩
   ·refine ⟨h1.append (List.Sublist.refl _), fun y hy hyl => ?_⟩
    rcases List.mem_append.1 hyl with h | h
    ·exact List.mem_append_left _ (h2 y hy h)
    ·exact List.mem_append_right _ h
   ·refine ⟨h1.trans (List.sublist_append_left _ _), fun y hy hyl => ?_⟩
    rcases List.mem_append.1 hyl with h | h
    ·exact h2 y hy h
    ·exact absurd (List.mem_singleton.1 h ▸ hy) hxa
  ·rintro ⟨h1, h2⟩
   obtain ⟨s, t, rfl, hs, ht⟩ := List.sublist_append_iff.1 h1
   cases t with
   | nil =>
    rw [List.append_nil] at h2 ⊢
    refine ⟨s, (hI s).2 ⟨hs, fun y hy hyl => h2 y hy (List.mem_append_left _ hyl)⟩, setS_mem.2 (.inr ⟨fun hxa => hx (hs.subset (h2 x hxa (List.mem_append_right _ (List.mem_singleton.2 rfl)))), rfl⟩)⟩
   | cons z t =>
    have hz : z :: t = [x] := by
     have := ht.length_le
     have h3 : t = [] := List.eq_nil_of_length_eq_zero (by simpa using this)
     subst h3
     have := ht.subset (List.mem_singleton.2 rfl)
     rw [List.mem_singleton.1 this]
    rw [hz] at h2 ⊢
    refine ⟨s, (hI s).2 ⟨hs, fun y hy hyl => ?_⟩, setS_mem.2 (.inl rfl)⟩
    rcases List.mem_append.1 (h2 y hy (List.mem_append_left _ hyl)) with h | h
    ·exact h
    ·exact absurd (List.mem_singleton.1 h ▸ hyl) hx
theorem setsF_len {all : List Nat} : ∀ (n : Nat) (l : List Nat), l.length = n -> (setsF all l).length <= 2 ^ n := by
 intro n
 induction n with
 | zero =>
  intro l hl
  obtain rfl := List.eq_nil_of_length_eq_zero hl
  exact Nat.le_refl _
 | succ n ih =>
  intro l hl
  have hne : l ≠ [] := fun h => by rw [h] at hl; cases hl
  obtain ⟨l', x, rfl⟩ : ∃ l' x, l = l' ++ [x] := ⟨l.dropLast, l.getLast hne, (List.dropLast_concat_getLast hne).symm⟩
  rw [List.length_append] at hl
  have h1 := ih l' (by simpa using hl)
  rw [setsF_add, Nat.pow_succ]
  have key : ∀ m : List (List Nat), (m.flatMap (setS all x)).length <= m.length * 2 := by
   intro m
   induction m with
   | nil => exact Nat.le_refl _
   | cons s m ih =>
    rw [List.flatMap_cons, List.length_append, List.length_cons]
    have : (setS all x s).length <= 2 := by unfold setS; split <;> simp
    omega
  have := key (setsF all l')
  omega
theorem setsF_row {all l S : List Nat} (hl : l.Nodup) (h : S ∈ setsF all l) : S.length <= l.length /\ ∀ x ∈ S, x ∈ l := by
 obtain ⟨h1, _⟩ := (setsF_mem _ l rfl hl S).1 h
 exact ⟨h1.length_le, fun x hx => h1.subset hx⟩
/-- the sets are what may be chosen -/
theorem sets_ch {G : Gm} {k : Nat} {l : List Int} {S : List Nat} : S ∈ setsF (due G k l) (may G k l) ↔ Ch G k l S := by
 rw [setsF_mem _ _ rfl ((may_inc G k l).imp fun h => Nat.ne_of_lt h)]
 exact ⟨fun h => ⟨h.1, fun x hx => h.2 x hx (due_may hx)⟩, fun h => ⟨h.1, fun y hy _ => h.2 y hy⟩⟩
theorem sets_free {G : Gm} {l : List Int} {S : List Nat} : S ∈ setsF [] (free G l) ↔ List.Sublist S (free G l) := by
 rw [setsF_mem _ _ rfl ((free_inc G l).imp fun h => Nat.ne_of_lt h)]
 exact ⟨fun h => h.1, fun h => ⟨h, fun y hy => by cases hy⟩⟩
end Go.Kin.Sg

namespace Go
open Go.RowKit
namespace Kin

/-- The blocks of D lie as they lay; the heap has not shrunk; the world outside is the same. -/
structure Same (D : Nat -> Prop) (W W' : World) : Prop where
 os : W'.os = W.os
 tape : W'.tape = W.tape
 output : W'.output = W.output
 size : W.heap.size <= W'.heap.size
 block : ∀ k, k < W.heap.size -> D k -> W'.heap[k]? = W.heap[k]?

theorem Same.refl (D : Nat -> Prop) (W : World) : Same D W W := ⟨rfl, rfl, rfl, Nat.le_refl _, fun _ _ _ => rfl⟩
theorem Same.trans {D : Nat -> Prop} {A B C : World} (h : Same D A B) (k : Same D B C) : Same D A C :=
 ⟨k.os.trans h.os, k.tape.trans h.tape, k.output.trans h.output, Nat.le_trans h.size k.size,
  fun i hi hd => (k.block i (Nat.lt_of_lt_of_le hi h.size) hd).trans (h.block i hi hd)⟩
theorem Same.mono {D D' : Nat -> Prop} {A B : World} (h : Same D A B) (hd : ∀ k, D' k -> D k) : Same D' A B :=
 ⟨h.os, h.tape, h.output, h.size, fun i hi h' => h.block i hi (hd i h')⟩
/-- as `mono`, but only blocks that lay in A count -/
theorem Same.monoLt {D D' : Nat -> Prop} {A B : World} (h : Same D A B) (hd : ∀ k, k < A.heap.size -> D' k -> D k) : Same D' A B :=
 ⟨h.os, h.tape, h.output, h.size, fun i hi h' => h.block i hi (hd i hi h')⟩
theorem Same.alloc (D : Nat -> Prop) (W : World) (o : Obj) : Same D W (W.alloc o) :=
 ⟨rfl, rfl, rfl, by simp, fun i hi _ => Below.heap_alloc W o i hi⟩
theorem Same.drew (D : Nat -> Prop) (W : World) : Same D W W.drew := ⟨rfl, rfl, rfl, Nat.le_refl _, fun _ _ _ => rfl⟩
theorem Same.drewN (D : Nat -> Prop) (W : World) (n : Nat) : Same D W (W.drewN n) := ⟨rfl, rfl, rfl, Nat.le_refl _, fun _ _ _ => rfl⟩
theorem Same.putObj {D : Nat -> Prop} (W : World) (r : Nat) (o : Obj) (h : ¬ D r) : Same D W (W.putObj r o) :=
 ⟨rfl, rfl, rfl, by simp, fun i _ hd => World.putObj_heap_other (fun e => h (e ▸ hd))⟩
theorem Same.below {D : Nat -> Prop} {B : Nat} {W W' : World} (h : Same D W W') (hB : B <= W.heap.size) (hd : ∀ k, k < B -> D k) : Below B W W' :=
 ⟨h.os, h.tape, h.output, h.size, fun k hk => h.block k (Nat.lt_of_lt_of_le hk hB) (hd k hk)⟩
/-- `Below` at the heap's own size keeps all. -/
theorem Same.of_below_all {D : Nat -> Prop} {W W' : World} (h : Below W.heap.size W W') : Same D W W' :=
 ⟨h.os, h.tape, h.output, h.size, fun k hk _ => h.block k hk⟩
theorem lt_of_heap {W : World} {k : Nat} {o : Obj} (h : W.heap[k]? = some o) : k < W.heap.size := (Array.getElem?_eq_some_iff.1 h).1
theorem Same.obj {D : Nat -> Prop} {W W' : World} (h : Same D W W') {k : Nat} {o : Obj} (hk : W.heap[k]? = some o) (hd : D k) : W'.heap[k]? = some o :=
 (h.block k (lt_of_heap hk) hd).trans hk
theorem lt_of_cell {W : World} {a : Addr} {v : Value} (h : W.cell? a = some v) : a.block < W.heap.size := by
 unfold World.cell? at h
 cases ho : W.heap[a.block]? with
 | none => rw [ho] at h; cases h
 | some o => exact lt_of_heap ho
theorem Same.cell {D : Nat -> Prop} {W W' : World} (h : Same D W W') {a : Addr} {v : Value} (hc : W.cell? a = some v) (hd : D a.block) : W'.cell? a = some v := by
 have := h.block a.block (lt_of_cell hc) hd
 unfold World.cell? at hc ⊢; rw [this]; exact hc
/-- W is w1 with new blocks: all that lay lies as it lay. -/
def Later (w1 W : World) : Prop := Below w1.heap.size w1 W
theorem Later.step {a b c : World} (h : Later a b) (k : Below b.heap.size b c) : Later a c := Below.trans h (Below.mono k h.size)
theorem Later.cell {a b : World} (h : Later a b) {p : Addr} {v : Value} (hc : a.cell? p = some v) : b.cell? p = some v := (Below.cell h (lt_of_cell hc)).trans hc
/-- What the body of a function must achieve where it may hold ranges over functions. -/
def bodyPostK (P : Program) (fn : Func) (R : Ending -> World -> Prop) : Exit -> Act -> World -> Prop := bodyPostM Fence.wide 0 P fn R

theorem calls_of_wpK {P : Program} {f : FuncId} {fn : Func} {c : Code} {args : Array Value} {w : World} {R : Ending -> World -> Prop}
  (hf : P.funcs[f]? = some fn) (hb : fn.body = some c)
  (h : c.wp P (bodyPostK P fn R) { tmps := args ++ Array.replicate (fn.ntmps - args.size) undef, defers := [] } w) : Calls P f args w R :=
 callsIn_wide.1 (callsIn_of_wp_marks (F := Fence.wide) (n := 0) hf hb trivial (wpIn_wide.2 h))

/-- the end, no mark -/
theorem bodyPostK_ret0 {P : Program} {fn : Func} {R : Ending -> World -> Prop} {a : Act} {w : World} {v : Value} (hd : a.defers = [])
  (hr : (results fn a.tmps).run P w = .ok v w) (hR : R (.returned v) w) : bodyPostK P fn R .ret a w := by
 show LeavesInM _ _ _ _ _ _ a.defers _ _
 rw [hd]; exact ⟨v, hr, hR⟩
theorem bodyPostK_end0 {P : Program} {fn : Func} {R : Ending -> World -> Prop} {a : Act} {w : World} {v : Value} (hd : a.defers = [])
  (hr : (results fn a.tmps).run P w = .ok v w) (hR : R (.returned v) w) : bodyPostK P fn R .normal a w := by
 show LeavesInM _ _ _ _ _ _ a.defers _ _
 rw [hd]; exact ⟨v, hr, hR⟩
end Kin
end Go

namespace Go
open Go.RowKit
namespace Kin

/-! ## The end of a function that gathered marks -/

def mark (D : Nat) : Deferred := { target := .collected D, args := #[] }

/-- The world with all marks' blocks shut. -/
def shut : List Nat -> World -> World
 | [], w => w
 | D :: Ds, w => shut Ds (w.putObj D (.deferred none))

/-- All marks' blocks lie open, each in a block of its own. -/
def Marks (Ds : List Nat) (w : World) : Prop := Ds.Nodup /\ ∀ D ∈ Ds, w.heap[D]? = some (.deferred (some []))

theorem Marks.tail {D : Nat} {Ds : List Nat} {w : World} (h : Marks (D :: Ds) w) : Marks Ds (w.putObj D (.deferred none)) := by
 obtain ⟨h1, h2⟩ := h
 rw [List.nodup_cons] at h1
 exact ⟨h1.2, fun E hE => (World.putObj_heap_other (r := D) (fun e => by subst e; exact h1.1 hE)).trans (h2 E (List.mem_cons_of_mem _ hE))⟩

theorem shut_same (Ds : List Nat) (w : World) : Same (fun b => b ∉ Ds) w (shut Ds w) := by
 induction Ds generalizing w with
 | nil => exact Same.refl _ _
 | cons D Ds ih =>
  exact (Same.putObj (D := fun b => b ∉ D :: Ds) w D _ (fun h => h List.mem_cons_self)).trans
   ((ih _).mono fun b hb h => hb (List.mem_cons_of_mem _ h))

theorem leaves_marks {P : Program} {fn : Func} {tmps : Array Value} {R : Ending -> World -> Prop} {v : Value} (Ds : List Nat) (w : World) (h : Marks Ds w)
  (hr : (results fn tmps).run P (shut Ds w) = .ok v (shut Ds w)) (hR : R (.returned v) (shut Ds w)) :
  LeavesInM Fence.wide 0 P fn tmps R (Ds.map mark) .returning w := by
 induction Ds generalizing w with
 | nil => exact ⟨v, hr, hR⟩
 | cons D Ds ih =>
  exact ⟨by simp, .inl ⟨D, _, rfl, run_takeDeferred (h.2 D List.mem_cons_self), ih _ h.tail hr hR⟩⟩

theorem bodyPostK_rets {P : Program} {fn : Func} {R : Ending -> World -> Prop} {a : Act} {w : World} {v : Value} {Ds : List Nat} (hd : a.defers = Ds.map mark) (h : Marks Ds w)
  (hr : (results fn a.tmps).run P (shut Ds w) = .ok v (shut Ds w)) (hR : R (.returned v) (shut Ds w)) : bodyPostK P fn R .ret a w := by
 show LeavesInM _ _ _ _ _ _ a.defers _ _
 rw [hd]; exact leaves_marks Ds w h hr hR

end Kin
end Go

namespace Go
open Go.RowKit
namespace Kin
end Kin
end Go

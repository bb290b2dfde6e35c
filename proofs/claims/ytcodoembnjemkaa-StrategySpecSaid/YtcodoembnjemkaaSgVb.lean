/-! Difference constraints: the least schedule, and why n rounds reach it. Plain Lean. -/
set_option linter.unusedSectionVars false
set_option linter.unusedVariables false
set_option linter.unusedSimpArgs false
namespace Go.Kin.St

/-- The time of `b` less that of `a` is at most `w`. -/
structure Ed where
 a : Nat
 b : Nat
 w : Int

def upd {α : Type} (t : Nat -> α) (i : Nat) (v : α) : Nat -> α := fun x => if x = i then v else t x

/-- All constraints are kept. -/
def Sol (E : List Ed) (t : Nat -> Int) : Prop := ∀ e ∈ E, t e.b - t e.a <= e.w

/-- All edges are between points below `n`. -/
def In (n : Nat) (E : List Ed) : Prop := ∀ e ∈ E, e.a < n /\ e.b < n

def raise (t : Nat -> Int) (e : Ed) : Nat -> Int := upd t e.a (max (t e.a) (t e.b - e.w))

def pass (E : List Ed) (t : Nat -> Int) : Nat -> Int := E.foldl raise t

/-! ## Sums and counts below n -/

def sum : Nat -> (Nat -> Int) -> Int
 | 0, _ => 0
 | n + 1, f => sum n f + f n

noncomputable def cnt : Nat -> (Nat -> Prop) -> Nat
 | 0, _ => 0
 | n + 1, p => cnt n p + (open Classical in if p n then 1 else 0)

theorem cnt_le (n : Nat) (p : Nat -> Prop) : cnt n p <= n := by
 induction n with
 | zero => simp [cnt]
 | succ n ih => simp only [cnt]; split <;> omega

/-! ## The least schedule -/

theorem sol_min {E : List Ed} {s u : Nat -> Int} (hs : Sol E s) (hu : Sol E u) : Sol E (fun x => min (s x) (u x)) := by
 intro e he
 have h1 := hs e he
 have h2 := hu e he
 simp only; omega

theorem sol_shift {E : List Ed} {s : Nat -> Int} (hs : Sol E s) (k : Int) : Sol E (fun x => s x + k) := by
 intro e he
 have h1 := hs e he
 simp only; omega

/-- `L` is the least schedule that is nowhere below `I`. -/
structure Least (n : Nat) (E : List Ed) (I L : Nat -> Int) : Prop where
 sol : Sol E L
 pos : ∀ x, x < n -> I x <= L x
 le : ∀ s, Sol E s -> (∀ x, x < n -> I x <= s x) -> ∀ x, x < n -> L x <= s x

/-! ## Passes -/

def passes (E : List Ed) : Nat -> (Nat -> Int) -> (Nat -> Int)
 | 0, t => t
 | k + 1, t => pass E (passes E k t)

/-! ## The first pass that keeps all -/

end Go.Kin.St

/-! The greatest difference of two times: lowering passes are raising passes of the network turned about. Plain Lean. -/
namespace Go.Kin.St

def neg (t : Nat -> Int) : Nat -> Int := fun x => - t x
def low (t : Nat -> Int) (e : Ed) : Nat -> Int := upd t e.b (min (t e.b) (t e.a + e.w))
/-! ## Distances, and whether they are known -/

def reach (p : (Nat -> Int) × (Nat -> Bool)) (e : Ed) : (Nat -> Int) × (Nat -> Bool) :=
 if p.2 e.a = true /\ (p.2 e.b = false ∨ p.1 e.a + e.w < p.1 e.b) then (upd p.1 e.b (p.1 e.a + e.w), upd p.2 e.b true) else p

def reachs (E : List Ed) (p : (Nat -> Int) × (Nat -> Bool)) : (Nat -> Int) × (Nat -> Bool) := E.foldl reach p

def reached (E : List Ed) : Nat -> (Nat -> Int) × (Nat -> Bool) -> (Nat -> Int) × (Nat -> Bool)
 | 0, p => p
 | k + 1, p => reachs E (reached E k p)

/-! ## What a bound means -/

/-- Between two differences lie no gaps. -/
theorem between {E : List Ed} {a b : Nat} {t u : Nat -> Int} (ht : Sol E t) (hu : Sol E u) {v : Int}
  (h1 : t b - t a <= v) (h2 : v <= u b - u a) : ∃ r, Sol E r /\ r b - r a = v := by
 refine ⟨fun x => min (u x + (- u a)) (t x + (- t a + (v - (t b - t a)))), sol_min (sol_shift hu _) (sol_shift ht _), ?_⟩
 show min (u b + - u a) (t b + (- t a + (v - (t b - t a)))) - min (u a + - u a) (t a + (- t a + (v - (t b - t a)))) = v
 omega

/-! ## Closed walks -/

def follows : Nat -> List Ed -> Prop
 | _, [] => True
 | p, e :: l => e.a = p /\ follows e.b l

def weight : List Ed -> Int
 | [] => 0
 | e :: l => e.w + weight l

end Go.Kin.St

/-! The search for a negative cycle: stamps of the last update, and why `from` leads into a negative cycle. Plain Lean. -/
namespace Go.Kin.St

/-- The state of the search: distances, the points they came from, the edges' numbers, and (a ghost) the time of the last update. -/
structure Sr where
 d : Nat -> Int
 fr : Nat -> Nat
 by_ : Nat -> Nat
 T : Nat -> Nat

/-- What holds of a point that was updated. -/
structure Pt (E : List Ed) (s : Sr) (now x : Nat) : Prop where
 le : s.T x <= now
 has : 0 < s.T x -> ∃ e, E[s.by_ x]? = some e /\ e.b = x /\ s.fr x = e.a /\ s.d e.a + e.w <= s.d x /\ s.T e.a ≠ s.T x /\
  (s.T x < s.T e.a -> s.d e.a + e.w < s.d x) /\ (E.length < s.T x -> s.T x < s.T e.a + E.length)

structure Inv (E : List Ed) (s : Sr) (now : Nat) : Prop where
 pt : ∀ x, Pt E s now x
 ed : ∀ τ, 1 <= τ -> τ <= now -> now < τ + E.length -> ∀ e, E[(τ - 1) % E.length]? = some e -> s.T e.a <= τ -> s.d e.b <= s.d e.a + e.w

/-! ## Chains -/

def iter {α : Type} (f : α -> α) : Nat -> α -> α
 | 0, x => x
 | k + 1, x => f (iter f k x)

/-- The weight of the edge by which a point was updated. -/
def wt (E : List Ed) (s : Sr) (x : Nat) : Int := match E[s.by_ x]? with | some e => e.w | none => 0

/-! ## The cycle as a closed walk -/

def edgeAt (E : List Ed) (k : Nat) : Ed := (E[k]?).getD ⟨0, 0, 0⟩

/-- The edges by which the points of the chain were updated, in the order of the walk. -/
def walked (E : List Ed) (s : Sr) (c : Nat) : Nat -> List Ed
 | 0 => []
 | p + 1 => edgeAt E (s.by_ (iter s.fr p c)) :: walked E s c p

end Go.Kin.St

/-! Networks: links and their steps. Plain Lean. -/
namespace Go.Kin.St

structure Lk where
 fr : Int
 to : Int
 lo : Int
 hi : Int
deriving DecidableEq

def up (x : Lk) : Ed := ⟨x.fr.toNat, x.to.toNat, x.hi⟩
def dn (x : Lk) : Ed := ⟨x.to.toNat, x.fr.toNat, - x.lo⟩

/-- The steps of a network, in the program's order. -/
def edges : List Lk -> List Ed
 | [] => []
 | x :: l => up x :: dn x :: edges l

/-- ... and in the specification's order. -/
def edges' : List Lk -> List Ed
 | [] => []
 | x :: l => dn x :: up x :: edges' l

/-- A link between points below `n`, with its numbers in their bounds. -/
def Lk.Fine (n : Int) (x : Lk) : Prop :=
 0 <= x.fr /\ x.fr < n /\ 0 <= x.to /\ x.to < n /\ x.fr ≠ x.to /\ -1099511627776 <= x.lo /\ x.lo <= x.hi /\ x.hi <= 1099511627776

instance (n : Int) (x : Lk) : Decidable (x.Fine n) := by unfold Lk.Fine; exact inferInstance

def Fine (n : Int) (l : List Lk) : Prop := ∀ x ∈ l, x.Fine n

instance (n : Int) (l : List Lk) : Decidable (Fine n l) := by unfold Fine; exact inferInstance

end Go.Kin.St

namespace Go.Kin.Ct
open Go.Kin.St
/-- a called link that is right by itself -/
def Cal (n : Int) (x : Lk) : Prop := 0 <= x.fr /\ x.fr < n /\ 0 <= x.to /\ x.to < n /\ x.fr ≠ x.to /\ 0 <= x.lo /\ x.lo <= x.hi /\ x.hi <= 1099511627776
instance (n : Int) (x : Lk) : Decidable (Cal n x) := by unfold Cal; infer_instance
/-- the called link to a point -/
def into : List Lk -> Int -> Option Nat
 | [], _ => none
 | x :: C, p => if x.to = p then some 0 else (into C p).map (· + 1)
theorem into_some {C : List Lk} {p : Int} {i : Nat} : into C p = some i -> ∃ x, C[i]? = some x /\ x.to = p := by
 induction C generalizing i with
 | nil => intro h; cases h
 | cons x C ih =>
  intro h
  rw [into] at h
  split at h
  ·rename_i e
   cases h
   exact ⟨x, rfl, e⟩
  ·cases hj : into C p with
   | none => rw [hj] at h; cases h
   | some j =>
    rw [hj] at h
    cases h
    exact ih hj
theorem into_none {C : List Lk} {p : Int} (h : into C p = none) : ∀ x ∈ C, x.to ≠ p := by
 induction C with
 | nil => intro x hx; cases hx
 | cons y C ih =>
  rw [into] at h
  split at h
  ·cases h
  ·rename_i e
   intro x hx
   rcases List.mem_cons.1 hx with rfl | hx
   ·exact e
   ·cases hj : into C p with
    | none => exact ih hj x hx
    | some j => rw [hj] at h; cases h
theorem into_lt {C : List Lk} {p : Int} {i : Nat} (h : into C p = some i) : i < C.length := by
 obtain ⟨x, hx, _⟩ := into_some h
 exact (List.getElem?_eq_some_iff.1 hx).1
/-- where a called link begins -/
def frm (C : List Lk) (i : Nat) : Int := match C[i]? with | some x => x.fr | none => 0
/-- up to the root, in so many steps at most: the links passed, and the point that is reached -/
def climb (C : List Lk) : Nat -> Int -> List Nat × Int
 | 0, p => ([], p)
 | f + 1, p => match into C p with
   | none => ([], p)
   | some i => (i :: (climb C f (frm C i)).1, (climb C f (frm C i)).2)
theorem climb_none {C : List Lk} {p : Int} (h : into C p = none) : ∀ f, climb C f p = ([], p)
 | 0 => rfl
 | f + 1 => by rw [climb, h]
theorem climb_some {C : List Lk} {p : Int} {i : Nat} (h : into C p = some i) (f : Nat) : climb C (f + 1) p = (i :: (climb C f (frm C i)).1, (climb C f (frm C i)).2) := by rw [climb, h]
theorem climb_len (C : List Lk) : ∀ f p, (climb C f p).1.length <= f
 | 0, p => Nat.le_refl _
 | f + 1, p => by
  cases h : into C p with
  | none => rw [climb_none h]; exact Nat.zero_le _
  | some i => rw [climb_some h]; have := climb_len C f (frm C i); simp only [List.length_cons]; omega
theorem climb_stop {C : List Lk} : ∀ {f : Nat} {p : Int}, into C (climb C f p).2 = none -> ∀ g, climb C (f + g) p = climb C f p
 | 0, p, h, g => climb_none h _
 | f + 1, p, h, g => by
  cases hi : into C p with
  | none => rw [climb_none hi, climb_none hi]
  | some i =>
   rw [climb_some hi] at h ⊢
   rw [show f + 1 + g = (f + g) + 1 by omega, climb_some hi, climb_stop (f := f) h g]
theorem climb_in {n : Int} {C : List Lk} (hC : ∀ x ∈ C, Cal n x) : ∀ (f : Nat) (p : Int), 0 <= p -> p < n -> 0 <= (climb C f p).2 /\ (climb C f p).2 < n
 | 0, p, h0, h1 => ⟨h0, h1⟩
 | f + 1, p, h0, h1 => by
  cases hi : into C p with
  | none => rw [climb_none hi]; exact ⟨h0, h1⟩
  | some i =>
   rw [climb_some hi]
   obtain ⟨x, hx, _⟩ := into_some hi
   have hc := hC x (List.mem_of_getElem? hx)
   have hf : frm C i = x.fr := by unfold frm; rw [hx]
   exact climb_in hC f _ (by rw [hf]; exact hc.1) (by rw [hf]; exact hc.2.1)
/-- the called links are right -/
structure Tree (n : Nat) (C : List Lk) : Prop where
 cal : ∀ x ∈ C, Cal n x
 one : ∀ i x, C[i]? = some x -> into C x.to = some i
 ends : ∀ p : Nat, p < n -> into C (climb C n p).2 = none
/-- the links that lead to a point, the nearest one first, and its root -/
def chain (C : List Lk) (n : Nat) (p : Int) : List Nat := (climb C n p).1
def root (C : List Lk) (n : Nat) (p : Int) : Int := (climb C n p).2
/-! ## Sums -/
/-! ## Gaps -/
end Go.Kin.Ct

namespace Go.Kin.Sg
open Go.Kin.St Go.Kin.Ct
/-- a game: points, the last tick, links, called links -/
structure Gm where
 n : Nat
 T : Nat
 L : List Lk
 C : List Lk
/-- what is known of a point -/
def kn (l : List Int) (q : Nat) : Int := l.getD q 0
theorem kn_get {l : List Int} {q : Nat} {x : Int} (h : l[q]? = some x) : kn l q = x := by unfold kn; rw [List.getD_eq_getElem?_getD, h]; rfl
theorem kn_at {l : List Int} {q : Nat} (h : q < l.length) : l[q]? = some (kn l q) := by
 have := List.getElem?_eq_getElem h
 rw [this, kn_get this]
theorem kn_over {l : List Int} {q : Nat} (h : l.length <= q) : kn l q = 0 := by unfold kn; rw [List.getD_eq_getElem?_getD, List.getElem?_eq_none h]; rfl
theorem kn_ext {l m : List Int} (h : l.length = m.length) (h2 : ∀ q, q < l.length -> kn l q = kn m q) : l = m := by
 apply List.ext_getElem?
 intro i
 by_cases hi : i < l.length
 ·rw [kn_at hi, kn_at (by omega), h2 i hi]
 ·rw [List.getElem?_eq_none (by omega), List.getElem?_eq_none (by omega)]
/-- points occur -/
def put (l : List Int) (S : List Nat) (v : Int) : List Int := S.foldl (fun l q => l.set q v) l
theorem put_len {v : Int} : ∀ {S : List Nat} {l : List Int}, (put l S v).length = l.length
 | [], _ => rfl
 | q :: S, l => by
  show (put (l.set q v) S v).length = _
  rw [put_len, List.length_set]
theorem kn_set {l : List Int} {q p : Nat} {v : Int} (hp : p < l.length) : kn (l.set q v) p = if p = q then v else kn l p := by
 by_cases h : p = q
 ·subst h
  rw [if_pos rfl]
  exact kn_get (by rw [List.getElem?_set]; simp [hp])
 ·rw [if_neg h]
  unfold kn
  rw [List.getD_eq_getElem?_getD, List.getD_eq_getElem?_getD, List.getElem?_set_ne (Ne.symm h)]
theorem put_kn {v : Int} {p : Nat} : ∀ {S : List Nat} {l : List Int}, p < l.length -> kn (put l S v) p = if p ∈ S then v else kn l p
 | [], l, _ => by simp [put]
 | q :: S, l, hp => by
  show kn (put (l.set q v) S v) p = _
  rw [put_kn (by rw [List.length_set]; exact hp), kn_set hp]
  by_cases h1 : p ∈ S
  ·rw [if_pos h1, if_pos (List.mem_cons_of_mem _ h1)]
  ·rw [if_neg h1]
   by_cases h2 : p = q
   ·rw [if_pos h2, if_pos (by rw [h2]; exact List.mem_cons_self)]
   ·rw [if_neg h2, if_neg (by simp [h1, h2])]
/-- putting depends on which points there are alone -/
theorem put_congr {l : List Int} {S S' : List Nat} {v : Int} (h : ∀ p, p ∈ S ↔ p ∈ S') : put l S v = put l S' v := kn_ext (by rw [put_len, put_len]) fun q hq => by
 rw [put_len] at hq
 rw [put_kn hq, put_kn hq]
 by_cases hm : q ∈ S
 ·rw [if_pos hm, if_pos ((h q).1 hm)]
 ·rw [if_neg hm, if_neg (fun g => hm ((h q).2 g))]
/-! ## What may occur -/
def lnk (C : List Lk) (q : Nat) : Option Lk := (into C q).bind fun i => C[i]?
/-- how long a called point has waited, and its link -/
def wtF (C : List Lk) (k : Int) (f : Nat -> Int) (q : Nat) : Option (Int × Lk) := match lnk C q with
 | some x => if f q = 0 /\ f x.fr.toNat ≠ 0 then some (k + 1 - f x.fr.toNat, x) else none
 | none => none
def mayF (C : List Lk) (k : Int) (f : Nat -> Int) (q : Nat) : Bool := match wtF C k f q with
 | some (m, x) => decide (x.lo <= m) && decide (m <= x.hi)
 | none => false
def dueF (C : List Lk) (k : Int) (f : Nat -> Int) (q : Nat) : Bool := match wtF C k f q with
 | some (m, x) => decide (x.lo <= m) && decide (m = x.hi)
 | none => false
def mayB (G : Gm) (k : Nat) (l : List Int) (q : Nat) : Bool := mayF G.C k (kn l) q
def dueB (G : Gm) (k : Nat) (l : List Int) (q : Nat) : Bool := dueF G.C k (kn l) q
theorem due_mayB {G : Gm} {k : Nat} {l : List Int} {q : Nat} (h : dueB G k l q = true) : mayB G k l q = true := by
 unfold dueB dueF at h
 unfold mayB mayF
 cases hw : wtF G.C k (kn l) q with
 | none => rw [hw] at h; cases h
 | some p =>
  obtain ⟨m, x⟩ := p
  rw [hw] at h
  simp only [Bool.and_eq_true, decide_eq_true_eq] at h ⊢
  omega
def may (G : Gm) (k : Nat) (l : List Int) : List Nat := (List.range G.n).filter (mayB G k l)
def due (G : Gm) (k : Nat) (l : List Int) : List Nat := (List.range G.n).filter (dueB G k l)
def free (G : Gm) (l : List Int) : List Nat := (List.range G.n).filter fun q => (into G.C q).isNone && decide (kn l q = 0)
theorem due_may {G : Gm} {k : Nat} {l : List Int} {q : Nat} (h : q ∈ due G k l) : q ∈ may G k l := by
 unfold due at h
 unfold may
 rw [List.mem_filter] at h ⊢
 exact ⟨h.1, due_mayB h.2⟩
theorem free_mem {G : Gm} {l : List Int} {q : Nat} : q ∈ free G l ↔ q < G.n /\ into G.C q = none /\ kn l q = 0 := by
 unfold free
 rw [List.mem_filter, List.mem_range, Bool.and_eq_true, decide_eq_true_eq, Option.isNone_iff_eq_none]
theorem may_lt {G : Gm} {k : Nat} {l : List Int} {q : Nat} (h : q ∈ may G k l) : q < G.n := List.mem_range.1 (List.mem_filter.1 h).1
theorem range_inc (n : Nat) : (List.range n).Pairwise (· < ·) := List.pairwise_lt_range
theorem may_inc (G : Gm) (k : Nat) (l : List Int) : (may G k l).Pairwise (· < ·) := (range_inc _).filter _
theorem due_inc (G : Gm) (k : Nat) (l : List Int) : (due G k l).Pairwise (· < ·) := (range_inc _).filter _
theorem free_inc (G : Gm) (l : List Int) : (free G l).Pairwise (· < ·) := (range_inc _).filter _
/-! ## Who wins -/
/-- all points have occurred, at ticks that are a schedule -/
def keptP (G : Gm) (l : List Int) : Prop := (∀ q, q < G.n -> kn l q ≠ 0) /\ ∀ x ∈ G.L, x.lo <= kn l x.to.toNat - kn l x.fr.toNat /\ kn l x.to.toNat - kn l x.fr.toNat <= x.hi
/-- what the others may choose -/
def Ch (G : Gm) (k : Nat) (l : List Int) (S : List Nat) : Prop := List.Sublist S (may G k l) /\ ∀ x ∈ due G k l, x ∈ S
/-- the desk wins, with so many ticks to come -/
def V (G : Gm) : Nat -> Nat -> List Int -> Prop
 | 0, _, l => keptP G l
 | f + 1, k, l => ∀ S, Ch G k l S -> ∃ D, List.Sublist D (free G (put l S (k + 1))) /\ V G f (k + 1) (put (put l S (k + 1)) D (k + 1))
/-- a strategy, by ticks and what is known -/
abbrev Tab := Nat -> List Int -> Option (List Nat)
def doD (t : Tab) (k : Nat) (l : List Int) : List Nat := (t k l).getD []
def doS (G : Gm) (t : Tab) (k : Nat) (l : List Int) : List Nat := (t k l).getD (due G k l)
/-- a strategy of the desk wins -/
def Wn (G : Gm) (t : Tab) : Nat -> Nat -> List Int -> Prop
 | 0, _, l => keptP G l
 | f + 1, k, l => ∀ S, Ch G k l S -> (∀ x ∈ doD t k (put l S (k + 1)), x ∈ free G (put l S (k + 1))) /\ Wn G t f (k + 1) (put (put l S (k + 1)) (doD t k (put l S (k + 1))) (k + 1))
/-- a strategy of the others spoils -/
def Sp (G : Gm) (t : Tab) : Nat -> Nat -> List Int -> Prop
 | 0, _, l => ¬ keptP G l
 | f + 1, k, l => (∀ x ∈ doS G t k l, x ∈ may G k l) /\ (∀ x ∈ due G k l, x ∈ doS G t k l) /\
   ∀ D, List.Sublist D (free G (put l (doS G t k l) (k + 1))) -> Sp G t f (k + 1) (put (put l (doS G t k l) (k + 1)) D (k + 1))
/-- its sets are increasing -/
def Inc (t : Tab) : Prop := ∀ k l S, t k l = some S -> S.Pairwise (· < ·)
theorem doD_inc {t : Tab} (h : Inc t) (k : Nat) (l : List Int) : (doD t k l).Pairwise (· < ·) := by
 unfold doD
 cases ht : t k l with
 | none => exact List.Pairwise.nil
 | some S => exact h k l S ht
theorem doS_inc {G : Gm} {t : Tab} (h : Inc t) (k : Nat) (l : List Int) : (doS G t k l).Pairwise (· < ·) := by
 unfold doS
 cases ht : t k l with
 | none => exact due_inc G k l
 | some S => exact h k l S ht
/-! ## Strategies that are read off the values -/
/-- positions that a strategy of the desk meets, ahead of the tick -/
inductive RD (G : Gm) (g : Nat -> List Int -> List Nat) : Nat -> List Int -> Prop
 | start : RD G g 0 (List.replicate G.n 0)
 | step {k : Nat} {l : List Int} {S : List Nat} (h : RD G g k l) (hk : k <= G.T) (hS : Ch G k l S) : RD G g (k + 1) (put (put l S (k + 1)) (g k (put l S (k + 1))) (k + 1))
theorem Wn_of {G : Gm} {t : Tab} {g : Nat -> List Int -> List Nat} (hg : ∀ k l f S, k + f = G.T -> RD G g k l -> Ch G k l S -> V G (f + 1) k l -> List.Sublist (g k (put l S (k + 1))) (free G (put l S (k + 1))) /\ V G f (k + 1) (put (put l S (k + 1)) (g k (put l S (k + 1))) (k + 1)))
  (ht : ∀ k l S, k <= G.T -> RD G g k l -> Ch G k l S -> doD t k (put l S (k + 1)) = g k (put l S (k + 1))) : ∀ (f k : Nat) (l : List Int), k + f = G.T + 1 -> RD G g k l -> V G f k l -> Wn G t f k l
 | 0, _, _, _, _, hv => hv
 | f + 1, k, l, hk, hr, hv => fun S hS => by
  obtain ⟨h1, h2⟩ := hg k l f S (by omega) hr hS hv
  have h3 := ht k l S (by omega) hr hS
  rw [h3]
  exact ⟨fun x hx => h1.subset hx, Wn_of hg ht f (k + 1) _ (by omega) (.step hr (by omega) hS) h2⟩
/-- positions that a strategy of the others meets -/
inductive RS (G : Gm) (g : Nat -> List Int -> List Nat) : Nat -> List Int -> Prop
 | start : RS G g 0 (List.replicate G.n 0)
 | step {k : Nat} {l : List Int} {D : List Nat} (h : RS G g k l) (hk : k <= G.T) (hD : List.Sublist D (free G (put l (g k l) (k + 1)))) : RS G g (k + 1) (put (put l (g k l) (k + 1)) D (k + 1))
theorem Sp_of {G : Gm} {t : Tab} {g : Nat -> List Int -> List Nat} (hg : ∀ k l f, k + f = G.T -> RS G g k l -> ¬ V G (f + 1) k l -> Ch G k l (g k l) /\ ∀ D, List.Sublist D (free G (put l (g k l) (k + 1))) -> ¬ V G f (k + 1) (put (put l (g k l) (k + 1)) D (k + 1)))
  (ht : ∀ k l, k <= G.T -> RS G g k l -> doS G t k l = g k l) : ∀ (f k : Nat) (l : List Int), k + f = G.T + 1 -> RS G g k l -> ¬ V G f k l -> Sp G t f k l
 | 0, _, _, _, _, hv => hv
 | f + 1, k, l, hk, hr, hv => by
  obtain ⟨h1, h2⟩ := hg k l f (by omega) hr hv
  have h3 := ht k l (by omega) hr
  unfold Sp
  rw [h3]
  exact ⟨fun x hx => h1.1.subset hx, h1.2, fun D hD => Sp_of hg ht f (k + 1) _ (by omega) (.step hr (by omega) hD) (h2 D hD)⟩
end Go.Kin.Sg

namespace Go.Kin.Sg
/-- of the first `i` elements those whose bits are set -/
def pick (ps : List Nat) (b i : Nat) : List Nat := ((List.range i).filter fun j => b.testBit j).map fun j => ps.getD j 0
theorem pick_succ {ps : List Nat} {b i : Nat} : pick ps b (i + 1) = if b.testBit i = true then pick ps b i ++ [ps.getD i 0] else pick ps b i := by
 unfold pick
 rw [List.range_succ, List.filter_append, List.map_append]
 cases h : b.testBit i <;> simp [h]
theorem pick_le {ps : List Nat} {b : Nat} : ∀ {i : Nat}, (pick ps b i).length <= i
 | 0 => Nat.le_refl _
 | i + 1 => by
  rw [pick_succ]
  have := pick_le (ps := ps) (b := b) (i := i)
  split
  ·rw [List.length_append]; simp; omega
  ·omega
theorem take_getD {ps : List Nat} {i : Nat} (h : i < ps.length) : ps.take (i + 1) = ps.take i ++ [ps.getD i 0] := by
 rw [List.take_add_one, List.getD_eq_getElem?_getD, List.getElem?_eq_getElem h]; rfl
theorem pick_sub {ps : List Nat} {b : Nat} : ∀ {i : Nat}, i <= ps.length -> List.Sublist (pick ps b i) (ps.take i)
 | 0, _ => List.nil_sublist _
 | i + 1, h => by
  rw [pick_succ, take_getD (by omega)]
  have := pick_sub (ps := ps) (b := b) (i := i) (by omega)
  split
  ·exact this.append (List.Sublist.refl _)
  ·exact this.trans (List.sublist_append_left _ _)
theorem pick_congr {ps : List Nat} {b c : Nat} : ∀ {i : Nat}, (∀ j, j < i -> b.testBit j = c.testBit j) -> pick ps b i = pick ps c i
 | 0, _ => rfl
 | i + 1, h => by rw [pick_succ, pick_succ, h i (by omega), pick_congr fun j hj => h j (by omega)]
theorem sub_snoc {α : Type} {S l : List α} {x : α} (h : List.Sublist S (l ++ [x])) : List.Sublist S l ∨ ∃ S', S = S' ++ [x] /\ List.Sublist S' l := by
 obtain ⟨a, b, rfl, h1, h2⟩ := List.sublist_append_iff.1 h
 cases h2 with
 | cons _ h2 =>
  cases h2
  left; rw [List.append_nil]; exact h1
 | cons_cons _ h2 =>
  cases h2
  exact .inr ⟨a, rfl, h1⟩
theorem pick_of {ps : List Nat} : ∀ {i : Nat} {S : List Nat}, i <= ps.length -> List.Sublist S (ps.take i) -> ∃ b, b < 2 ^ i /\ pick ps b i = S
 | 0, S, _, h => ⟨0, by simp, by rw [List.take_zero] at h; rw [List.sublist_nil.1 h]; rfl⟩
 | i + 1, S, hi, h => by
  rw [take_getD (by omega)] at h
  have e : 2 ^ (i + 1) = 2 ^ i + 2 ^ i := by rw [Nat.pow_succ]; omega
  rcases sub_snoc h with h2 | ⟨S', rfl, h2⟩
  ·obtain ⟨b, hb, hp⟩ := pick_of (ps := ps) (i := i) (Nat.le_of_succ_le hi) h2
   refine ⟨b, by omega, ?_⟩
   rw [pick_succ, Nat.testBit_lt_two_pow hb, if_neg (by decide), hp]
  ·obtain ⟨b, hb, hp⟩ := pick_of (ps := ps) (i := i) (Nat.le_of_succ_le hi) h2
   refine ⟨2 ^ i + b, by omega, ?_⟩
   rw [pick_succ, Nat.testBit_two_pow_add_eq, Nat.testBit_lt_two_pow hb, if_pos (by decide), pick_congr (c := b) fun j hj => Nat.testBit_two_pow_add_gt hj b, hp]
/-- is a set right -/
def okC (must S : List Nat) : Bool := must.all fun q => S.contains q
theorem okC_iff {must S : List Nat} : okC must S = true ↔ ∀ x ∈ must, x ∈ S := by
 unfold okC
 rw [List.all_eq_true]
 constructor
 ·intro h x hx; exact List.contains_iff_mem.1 (h x hx)
 ·intro h x hx; exact List.contains_iff_mem.2 (h x hx)
/-- the first `b` numbers' sets -/
def chN (ps must : List Nat) (b : Nat) : List (List Nat) := ((List.range b).map fun c => pick ps c ps.length).filter (okC must)
theorem chN_succ {ps must : List Nat} {b : Nat} : chN ps must (b + 1) = if okC must (pick ps b ps.length) = true then chN ps must b ++ [pick ps b ps.length] else chN ps must b := by
 unfold chN
 rw [List.range_succ, List.map_append, List.filter_append]
 cases h : okC must (pick ps b ps.length) <;> simp [h]
/-- all sets -/
def allCh (ps must : List Nat) : List (List Nat) := chN ps must (2 ^ ps.length)
theorem mem_allCh {ps must S : List Nat} : S ∈ allCh ps must ↔ List.Sublist S ps /\ ∀ x ∈ must, x ∈ S := by
 unfold allCh chN
 rw [List.mem_filter, List.mem_map, okC_iff]
 constructor
 ·rintro ⟨⟨b, _, rfl⟩, h⟩
  refine ⟨?_, h⟩
  have := pick_sub (ps := ps) (b := b) (Nat.le_refl ps.length)
  rwa [List.take_length] at this
 ·rintro ⟨h1, h2⟩
  obtain ⟨b, hb, hp⟩ := pick_of (Nat.le_refl ps.length) (by rwa [List.take_length])
  exact ⟨⟨b, List.mem_range.2 hb, hp⟩, h2⟩
theorem chN_pre {ps must : List Nat} : ∀ {n b : Nat}, b <= n -> ∃ r, chN ps must n = chN ps must b ++ r := by
 intro n b h
 induction n with
 | zero => obtain rfl : b = 0 := by omega
           exact ⟨[], by simp⟩
 | succ n ih =>
  by_cases e : b = n + 1
  ·subst e; exact ⟨[], by simp⟩
  ·obtain ⟨r, hr⟩ := ih (by omega)
   rw [chN_succ]
   split
   ·exact ⟨r ++ [pick ps n ps.length], by rw [hr, List.append_assoc]⟩
   ·exact ⟨r, hr⟩
/-- the set of a number that is right has its place -/
theorem chN_at {ps must : List Nat} {b : Nat} (hb : b < 2 ^ ps.length) (ho : okC must (pick ps b ps.length) = true) : (allCh ps must)[(chN ps must b).length]? = some (pick ps b ps.length) := by
 obtain ⟨r, hr⟩ := chN_pre (ps := ps) (must := must) (n := 2 ^ ps.length) (b := b + 1) hb
 unfold allCh
 rw [hr, chN_succ, if_pos ho, List.append_assoc, List.getElem?_append_right (Nat.le_refl _), Nat.sub_self]
 rfl
theorem chN_full {ps must : List Nat} : chN ps must (2 ^ ps.length) = allCh ps must := rfl
theorem ch_mem {G : Gm} {k : Nat} {l : List Int} {S : List Nat} : Ch G k l S ↔ S ∈ allCh (may G k l) (due G k l) := mem_allCh.symm
theorem free_ch {G : Gm} {l : List Int} {S : List Nat} : List.Sublist S (free G l) ↔ S ∈ allCh (free G l) [] := by
 rw [mem_allCh]
 exact ⟨fun h => ⟨h, fun x hx => by cases hx⟩, fun h => h.1⟩
end Go.Kin.Sg

namespace Go.Kin.Sg
open Classical
/-- the desk wins from a tick on -/
def Vt (G : Gm) (k : Nat) (l : List Int) : Prop := V G (G.T + 1 - k) k l
theorem Vt_end {G : Gm} {k : Nat} {l : List Int} (h : G.T < k) : Vt G k l ↔ keptP G l := by
 unfold Vt
 rw [show G.T + 1 - k = 0 by omega]
 rfl
theorem Vt_step {G : Gm} {k : Nat} {l : List Int} (h : k <= G.T) : Vt G k l ↔ ∀ S, Ch G k l S -> ∃ D, List.Sublist D (free G (put l S (k + 1))) /\ Vt G (k + 1) (put (put l S (k + 1)) D (k + 1)) := by
 unfold Vt
 rw [show G.T + 1 - k = (G.T + 1 - (k + 1)) + 1 by omega]
 rfl
noncomputable def goodD (G : Gm) (k : Nat) (q : List Int) (D : List Nat) : Bool := decide (Vt G (k + 1) (put q D (k + 1)))
/-- the desk's first good choice -/
noncomputable def fD (G : Gm) (k : Nat) (q : List Int) : Option (List Nat) := (allCh (free G q) []).find? (goodD G k q)
noncomputable def goodO (G : Gm) (k : Nat) (l : List Int) (S : List Nat) : Bool := !(fD G k (put l S (k + 1))).isSome
/-- the others' first good choice -/
noncomputable def fO (G : Gm) (k : Nat) (l : List Int) : Option (List Nat) := (allCh (may G k l) (due G k l)).find? (goodO G k l)
theorem fD_isSome {G : Gm} {k : Nat} {q : List Int} : (fD G k q).isSome = true ↔ ∃ D, List.Sublist D (free G q) /\ Vt G (k + 1) (put q D (k + 1)) := by
 unfold fD
 rw [List.find?_isSome]
 constructor
 ·rintro ⟨D, h1, h2⟩; exact ⟨D, free_ch.2 h1, of_decide_eq_true h2⟩
 ·rintro ⟨D, h1, h2⟩; exact ⟨D, free_ch.1 h1, decide_eq_true h2⟩
theorem fO_isSome {G : Gm} {k : Nat} {l : List Int} (hk : k <= G.T) : (fO G k l).isSome = true ↔ ¬ Vt G k l := by
 unfold fO
 rw [List.find?_isSome, Vt_step hk]
 constructor
 ·rintro ⟨S, h1, h2⟩ h
  unfold goodO at h2
  rw [fD_isSome.2 (h S (ch_mem.2 h1))] at h2
  cases h2
 ·intro h
  apply Classical.byContradiction
  intro h2
  apply h
  intro S hS
  apply Classical.byContradiction
  intro h3
  refine h2 ⟨S, ch_mem.1 hS, ?_⟩
  unfold goodO
  cases h4 : (fD G k (put l S (k + 1))).isSome with
  | false => rfl
  | true => exact absurd (fD_isSome.1 h4) h3
noncomputable def vB (G : Gm) (k : Nat) (l : List Int) : Bool := decide (Vt G k l)
theorem vB_step {G : Gm} {k : Nat} {l : List Int} (hk : k <= G.T) : vB G k l = !(fO G k l).isSome := by
 unfold vB
 have h := fO_isSome (l := l) hk
 cases h2 : (fO G k l).isSome with
 | true => rw [decide_eq_false (h.1 h2)]; rfl
 | false => rw [decide_eq_true (Classical.byContradiction fun g => by rw [h.2 g] at h2; cases h2)]; rfl
theorem vB_end {G : Gm} {k : Nat} {l : List Int} (hk : G.T < k) : vB G k l = decide (keptP G l) := by
 unfold vB
 exact decide_eq_decide.2 (Vt_end hk)
theorem fD_some {G : Gm} {k : Nat} {q : List Int} {D : List Nat} (h : fD G k q = some D) : List.Sublist D (free G q) /\ Vt G (k + 1) (put q D (k + 1)) :=
 ⟨free_ch.2 (List.mem_of_find?_eq_some h), of_decide_eq_true (show goodD G k q D = true from List.find?_some h)⟩
theorem fO_some {G : Gm} {k : Nat} {l : List Int} {S : List Nat} (h : fO G k l = some S) : Ch G k l S /\ ∀ D, List.Sublist D (free G (put l S (k + 1))) -> ¬ Vt G (k + 1) (put (put l S (k + 1)) D (k + 1)) := by
 refine ⟨ch_mem.2 (List.mem_of_find?_eq_some h), fun D h1 h2 => ?_⟩
 have h3 := List.find?_some h
 unfold goodO at h3
 rw [fD_isSome.2 ⟨D, h1, h2⟩] at h3
 cases h3
/-! ## What Solve and Spoil play -/
noncomputable def gD (G : Gm) (k : Nat) (q : List Int) : List Nat := (fD G k q).getD []
noncomputable def gO (G : Gm) (k : Nat) (l : List Int) : List Nat := (fO G k l).getD []
theorem gD_good {G : Gm} {k : Nat} {l : List Int} {S : List Nat} (hk : k <= G.T) (hS : Ch G k l S) (hv : Vt G k l) : fD G k (put l S (k + 1)) = some (gD G k (put l S (k + 1))) /\ List.Sublist (gD G k (put l S (k + 1))) (free G (put l S (k + 1))) /\ Vt G (k + 1) (put (put l S (k + 1)) (gD G k (put l S (k + 1))) (k + 1)) := by
 have h1 := fD_isSome.2 ((Vt_step hk).1 hv S hS)
 obtain ⟨D, hD⟩ := Option.isSome_iff_exists.1 h1
 have e : gD G k (put l S (k + 1)) = D := by unfold gD; rw [hD]; rfl
 rw [e]
 exact ⟨hD, fD_some hD⟩
theorem gO_good {G : Gm} {k : Nat} {l : List Int} (hk : k <= G.T) (hv : ¬ Vt G k l) : fO G k l = some (gO G k l) /\ Ch G k l (gO G k l) /\ ∀ D, List.Sublist D (free G (put l (gO G k l) (k + 1))) -> ¬ Vt G (k + 1) (put (put l (gO G k l) (k + 1)) D (k + 1)) := by
 have h1 := (fO_isSome hk).2 hv
 obtain ⟨S, hS⟩ := Option.isSome_iff_exists.1 h1
 have e : gO G k l = S := by unfold gO; rw [hS]; rfl
 rw [e]
 exact ⟨hS, fO_some hS⟩
/-- a decision: a tick, what is known, what is done -/
structure Dec where
 k : Int
 l : List Int
 d : List Int
def decN (k : Nat) (l : List Int) (d : List Nat) : Dec := ⟨k, l, d.map fun x : Nat => (x : Int)⟩
def dec1 (k : Nat) (l : List Int) (d : List Nat) : List Dec := if d = [] then [] else [decN k l d]
abbrev Pos := Nat × List Int
noncomputable def nxD (G : Gm) (p : Pos) : List Pos := (allCh (may G p.1 p.2) (due G p.1 p.2)).map fun S => (p.1 + 1, put (put p.2 S (p.1 + 1)) (gD G p.1 (put p.2 S (p.1 + 1))) (p.1 + 1))
noncomputable def adD (G : Gm) (p : Pos) : List Dec := (allCh (may G p.1 p.2) (due G p.1 p.2)).flatMap fun S => dec1 p.1 (put p.2 S (p.1 + 1)) (gD G p.1 (put p.2 S (p.1 + 1)))
noncomputable def nxO (G : Gm) (p : Pos) : List Pos := (allCh (free G (put p.2 (gO G p.1 p.2) (p.1 + 1))) []).map fun D => (p.1 + 1, put (put p.2 (gO G p.1 p.2) (p.1 + 1)) D (p.1 + 1))
noncomputable def adO (G : Gm) (p : Pos) : List Dec := dec1 p.1 p.2 (gO G p.1 p.2)
end Go.Kin.Sg

namespace Go.Kin.Sg
def kB (G : Gm) (l : List Int) : Bool := (List.range G.n).all (fun q => decide (kn l q ≠ 0)) && G.L.all fun x => decide (x.lo <= kn l x.to.toNat - kn l x.fr.toNat /\ kn l x.to.toNat - kn l x.fr.toNat <= x.hi)
theorem kB_iff {G : Gm} {l : List Int} : kB G l = true ↔ keptP G l := by
 unfold kB keptP
 rw [Bool.and_eq_true, List.all_eq_true, List.all_eq_true]
 constructor
 ·rintro ⟨h1, h2⟩
  exact ⟨fun q hq => of_decide_eq_true (h1 q (List.mem_range.2 hq)), fun x hx => of_decide_eq_true (h2 x hx)⟩
 ·rintro ⟨h1, h2⟩
  exact ⟨fun q hq => decide_eq_true (h1 q (List.mem_range.1 hq)), fun x hx => decide_eq_true (h2 x hx)⟩
def VB (G : Gm) : Nat -> Nat -> List Int -> Bool
 | 0, _, l => kB G l
 | f + 1, k, l => (allCh (may G k l) (due G k l)).all fun S => (allCh (free G (put l S (k + 1))) []).any fun D => VB G f (k + 1) (put (put l S (k + 1)) D (k + 1))
theorem VB_iff {G : Gm} : ∀ {f k : Nat} {l : List Int}, VB G f k l = true ↔ V G f k l
 | 0, _, _ => kB_iff
 | f + 1, k, l => by
  unfold VB V
  rw [List.all_eq_true]
  constructor
  ·intro h S hS
   obtain ⟨D, h1, h2⟩ := List.any_eq_true.1 (h S (ch_mem.1 hS))
   exact ⟨D, free_ch.2 h1, VB_iff.1 h2⟩
  ·intro h S hS
   obtain ⟨D, h1, h2⟩ := h S (ch_mem.2 hS)
   exact List.any_eq_true.2 ⟨D, free_ch.1 h1, VB_iff.2 h2⟩
theorem Vt_dec {G : Gm} {v : Bool} (h : VB G (G.T + 1) 0 (List.replicate G.n 0) = v) : Vt G 0 (List.replicate G.n 0) ↔ v = true := by
 rw [<- h]; exact VB_iff.symm
/-! ## The games of sane -/
theorem v_f3 : VB ⟨3, 3, [⟨1, 2, 1, 1⟩], [⟨0, 1, 1, 2⟩]⟩ 4 0 [0, 0, 0] = true := by decide +kernel
theorem v_f2 : VB ⟨3, 2, [⟨1, 2, 1, 1⟩], [⟨0, 1, 1, 2⟩]⟩ 3 0 [0, 0, 0] = false := by decide +kernel
theorem v_g9 : VB ⟨3, 9, [⟨1, 2, -1, -1⟩], [⟨0, 1, 1, 2⟩]⟩ 10 0 [0, 0, 0] = false := by decide +kernel
theorem v_one : VB ⟨1, 1, [], []⟩ 2 0 [0] = true := by decide +kernel
end Go.Kin.Sg

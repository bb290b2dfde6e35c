/- Stemmata: sets, parts, trees, and what a table costs at a locus. Plain Lean. -/
import Derived.Test.YtdegengehbdelaaGreatDoorProg
set_option maxRecDepth 100000
set_option maxHeartbeats 400000000
set_option linter.unusedSectionVars false
set_option linter.unusedVariables false
set_option linter.unusedSimpArgs false
namespace Go.Kin.Se
/-! ## Sets of witnesses as numbers -/
def singleB (s : Nat) : Bool := decide (0 < s) && decide (s &&& (s - 1) = 0)
/-- the lowest bit -/
def lb (a : Nat) : Nat := a - (a &&& (a - 1))
/-- without -/
def wo (c a : Nat) : Nat := c - (c &&& a)
def ownB (cl : List Nat) (s : Nat) : Bool := singleB s || decide (s ∈ cl)
/-- the parts of a clade, looked for from a set on -/
def prtL (cl : List Nat) (c : Nat) : Nat -> Nat -> Option (Nat × Nat)
 | 0, _ => none
 | f + 1, a => if a = 0 then none else if (decide (lb a = lb c) && ownB cl a) && ownB cl (wo c a) then some (a, wo c a) else prtL cl c f ((a - 1) &&& c)
def prt (cl : List Nat) (c : Nat) : Option (Nat × Nat) := prtL cl c c ((c - 1) &&& c)
/-! ## Trees as lists of clades -/
def ins (x : Nat) : List Nat -> List Nat
 | [] => [x]
 | y :: l => if x <= y then x :: y :: l else y :: ins x l
def isrt (l : List Nat) : List Nat := l.foldl (fun p x => ins x p) []
/-- the sets that a loop over the parts of a set takes, from one on -/
def subL (s : Nat) : Nat -> Nat -> List Nat
 | 0, _ => []
 | f + 1, a => if a = 0 then [] else (if lb a = lb s then [a] else []) ++ subL s f ((a - 1) &&& s)
def trL : Nat -> Nat -> List (List Nat)
 | 0, _ => []
 | f + 1, s => if singleB s then [[]] else (subL s s ((s - 1) &&& s)).flatMap fun a => (trL f a).flatMap fun x => (trL f (wo s a)).map fun y => isrt ((x ++ y) ++ [s])
def full (n : Nat) : Nat := 2 ^ n - 1
def trees (n : Nat) : List (List Nat) := trL n (full n)
/-- what Check says of a list of clades, of a few witnesses -/
def incN : Nat -> List Nat -> Bool
 | _, [] => true
 | m, c :: cl => decide (m < c) && incN c cl
def chkB (n : Nat) (cl : List Nat) : Bool := decide (1 <= n) && (decide (cl.length + 1 = n) && (incN 0 cl && (cl.all (fun c => decide (c < 2 ^ n)) && (decide (n <= 1 ∨ cl.getLastD 0 = full n) && cl.all fun c => (prt cl c).isSome))))
/-! ## Trees -/
inductive Tr where
 | lf (i : Nat)
 | nd (l r : Tr)
def Tr.st : Tr -> Nat
 | .lf i => 2 ^ i
 | .nd l r => l.st ||| r.st
def Tr.lv : Tr -> List Nat
 | .lf i => [i]
 | .nd l r => l.lv ++ r.lv
/-- a list of clades says a tree -/
def isT (cl : List Nat) : Tr -> Bool
 | .lf i => singleB (2 ^ i)
 | .nd l r => !singleB (Tr.st (.nd l r)) && (decide (prt cl (Tr.st (.nd l r)) = some (l.st, r.st)) && (isT cl l && isT cl r))
def log2 : Nat -> Nat -> Nat
 | 0, _ => 0
 | f + 1, s => if s <= 1 then 0 else log2 f (s / 2) + 1
def trOf (cl : List Nat) : Nat -> Nat -> Tr
 | 0, s => .lf (log2 8 s)
 | f + 1, s => if singleB s then .lf (log2 8 s) else match prt cl s with
   | some (a, b) => .nd (trOf cl f a) (trOf cl f b)
   | none => .lf 0
def tre (n : Nat) (cl : List Nat) : Tr := trOf cl 5 (full n)
def okT (n : Nat) (cl : List Nat) : Bool := chkB n cl && (isT cl (tre n cl) && (decide ((tre n cl).st = full n) && (decide (∀ i, i < n -> i ∈ (tre n cl).lv) && ((tre n cl).lv.all fun i => decide (i < n)))))
def okW (n : Nat) (cl : List Nat) : Bool := chkB (n + 1) (cl ++ [full (n + 1)]) && (isT (cl ++ [full (n + 1)]) (.nd (tre n cl) (.lf n)) && decide (Tr.st (.nd (tre n cl) (.lf n)) = full (n + 1)))
theorem trees_ok : ∀ n, n < 5 -> 0 < n -> (trees n).all (fun cl => okT n cl && okW n cl) = true := by decide +kernel
theorem trees_ne : ∀ n, n < 5 -> 0 < n -> trees n ≠ [] := by decide +kernel
theorem trees_len : ∀ n, n < 5 -> 0 < n -> (trees n).length <= 15 /\ (trees n).all (fun cl => decide (cl.length + 1 = n)) = true := by decide +kernel
/-! ## What a table costs at a locus -/
/-- the code of what is lost -/
def lost : Int := 8589934592
def stp (f t : Int) : Nat := if f = t then 0 else if t = 0 then 1 else if f = 0 then 4 else 2
def mn (l : List Nat) : Nat := l.min?.getD 0
theorem mn_spec {l : List Nat} (h : l ≠ []) : mn l ∈ l /\ ∀ x ∈ l, mn l <= x := by
 unfold mn
 cases hm : l.min? with
 | none => rw [List.min?_eq_none_iff] at hm; exact absurd hm h
 | some m =>
  rw [List.min?_eq_some_iff] at hm
  exact hm
theorem mn_eq {l : List Nat} {m : Nat} (h1 : m ∈ l) (h2 : ∀ x ∈ l, m <= x) : mn l = m := by
 obtain ⟨h3, h4⟩ := mn_spec (List.ne_nil_of_mem h1)
 exact Nat.le_antisymm (h4 m h1) (h2 _ h3)
/-- the least cost below a set, by state -/
def bel (S : List Int) (own : Nat -> Int) : Tr -> Int -> Option Nat
 | .lf i, s => if own i = s ∨ own i = lost then some 0 else none
 | .nd l r, s => some (mn (S.filterMap fun t => (bel S own l t).map (· + stp s t)) + mn (S.filterMap fun t => (bel S own r t).map (· + stp s t)))
def prc (S : List Int) (own : Nat -> Int) (t : Tr) : Nat := mn (S.filterMap (bel S own t))
/-- all leaves have states -/
def Fit (S : List Int) (own : Nat -> Int) (t : Tr) : Prop := S ≠ [] /\ ∀ i ∈ t.lv, own i = lost ∨ own i ∈ S
theorem Fit.l {S : List Int} {own : Nat -> Int} {l r : Tr} (h : Fit S own (.nd l r)) : Fit S own l := ⟨h.1, fun i hi => h.2 i (List.mem_append_left _ hi)⟩
theorem Fit.r {S : List Int} {own : Nat -> Int} {l r : Tr} (h : Fit S own (.nd l r)) : Fit S own r := ⟨h.1, fun i hi => h.2 i (List.mem_append_right _ hi)⟩
/-- some state has a cost -/
theorem bel_some {S : List Int} {own : Nat -> Int} {t : Tr} (h : Fit S own t) : ∃ s ∈ S, ∃ c, bel S own t s = some c := by
 cases t with
 | nd l r =>
  obtain ⟨s, hs⟩ := List.exists_mem_of_ne_nil _ h.1
  exact ⟨s, hs, _, rfl⟩
 | lf i =>
  rcases h.2 i (List.mem_singleton.2 rfl) with hi | hi
  ·obtain ⟨s, hs⟩ := List.exists_mem_of_ne_nil _ h.1
   exact ⟨s, hs, 0, if_pos (.inr hi)⟩
  ·exact ⟨own i, hi, 0, if_pos (.inl rfl)⟩
theorem fm_ne {S : List Int} {own : Nat -> Int} {t : Tr} (h : Fit S own t) (s : Int) : (S.filterMap fun q => (bel S own t q).map (· + stp s q)) ≠ [] := by
 obtain ⟨q, hq, c, hc⟩ := bel_some h
 exact List.ne_nil_of_mem (List.mem_filterMap.2 ⟨q, hq, by rw [hc]; rfl⟩)
theorem prc_ne {S : List Int} {own : Nat -> Int} {t : Tr} (h : Fit S own t) : S.filterMap (bel S own t) ≠ [] := by
 obtain ⟨q, hq, c, hc⟩ := bel_some h
 exact List.ne_nil_of_mem (List.mem_filterMap.2 ⟨q, hq, hc⟩)
theorem prc_spec {S : List Int} {own : Nat -> Int} {t : Tr} (h : Fit S own t) : (∃ s ∈ S, bel S own t s = some (prc S own t)) /\ ∀ s ∈ S, ∀ c, bel S own t s = some c -> prc S own t <= c := by
 obtain ⟨h1, h2⟩ := mn_spec (prc_ne h)
 obtain ⟨s, hs, hc⟩ := List.mem_filterMap.1 h1
 exact ⟨⟨s, hs, hc⟩, fun s hs c hc => h2 c (List.mem_filterMap.2 ⟨s, hs, hc⟩)⟩
theorem stp_self (s : Int) : stp s s = 0 := if_pos rfl
theorem stp_le (s t : Int) : stp s t <= 4 := by unfold stp; split <;> (try split) <;> (try split) <;> omega
/-- a part's cost, seen from a state -/
theorem part_spec {S : List Int} {own : Nat -> Int} {t : Tr} (h : Fit S own t) (s : Int) : (∃ q ∈ S, ∃ c, bel S own t q = some c /\ mn (S.filterMap fun q => (bel S own t q).map (· + stp s q)) = c + stp s q) /\ ∀ q ∈ S, ∀ c, bel S own t q = some c -> mn (S.filterMap fun q => (bel S own t q).map (· + stp s q)) <= c + stp s q := by
 obtain ⟨h1, h2⟩ := mn_spec (fm_ne h s)
 obtain ⟨q, hq, hc⟩ := List.mem_filterMap.1 h1
 obtain ⟨c, hc1, hc2⟩ := Option.map_eq_some_iff.1 hc
 exact ⟨⟨q, hq, c, hc1, hc2.symm⟩, fun q hq c hc => h2 _ (List.mem_filterMap.2 ⟨q, hq, by rw [hc]; rfl⟩)⟩
/-- the edition's own reading, as a further witness at the root, costs nothing more -/
theorem prc_wide {S : List Int} {own : Nat -> Int} {t : Tr} {n : Nat} {m : Int} (h : Fit S own t) (hm : m ∈ S) (hn : own n = m) (hl : m ≠ lost) (hb : bel S own t m = some (prc S own t)) : prc S own (.nd t (.lf n)) = prc S own t := by
 obtain ⟨_, hmin⟩ := prc_spec h
 have hfl : Fit S own (.lf n) := ⟨h.1, fun i hi => by rw [List.mem_singleton.1 hi, hn]; exact .inr hm⟩
 have hlow : ∀ s, prc S own t <= mn (S.filterMap fun q => (bel S own t q).map (· + stp s q)) := fun s => by
  obtain ⟨⟨q, hq, c, hc, he⟩, _⟩ := part_spec h s
  have := hmin q hq c hc
  omega
 have ht : mn (S.filterMap fun q => (bel S own t q).map (· + stp m q)) = prc S own t := by
  have := (part_spec h m).2 m hm _ hb
  rw [stp_self] at this
  exact Nat.le_antisymm this (hlow m)
 have hlf : mn (S.filterMap fun q => (bel S own (.lf n) q).map (· + stp m q)) = 0 := by
  have := (part_spec hfl m).2 m hm 0 (if_pos (.inl hn))
  rw [stp_self] at this
  omega
 refine mn_eq (List.mem_filterMap.2 ⟨m, hm, ?_⟩) fun x hx => ?_
 ·show some _ = some _
  rw [ht, hlf]; rfl
 ·obtain ⟨s, hs, hc⟩ := List.mem_filterMap.1 hx
  have hc : _ + _ = x := Option.some.inj hc
  have := hlow s
  omega
/-- what all agree in is at the root -/
theorem bel_agree {S : List Int} {own : Nat -> Int} {m : Int} (hm : m ∈ S) : ∀ {t : Tr}, (∀ i ∈ t.lv, own i = m) -> bel S own t m = some 0
 | .lf i, h => if_pos (.inl (h i (List.mem_singleton.2 rfl)))
 | .nd l r, h => by
  have hl := bel_agree hm (t := l) fun i hi => h i (List.mem_append_left _ hi)
  have hr := bel_agree hm (t := r) fun i hi => h i (List.mem_append_right _ hi)
  have key : ∀ {t : Tr}, bel S own t m = some 0 -> mn (S.filterMap fun q => (bel S own t q).map (· + stp m q)) = 0 := fun {t} ht => mn_eq (List.mem_filterMap.2 ⟨m, hm, by rw [ht, stp_self]; rfl⟩) fun x _ => Nat.zero_le _
  show some _ = some _
  rw [key hl, key hr]
theorem prc_agree {S : List Int} {own : Nat -> Int} {m : Int} {t : Tr} (hm : m ∈ S) (h : ∀ i ∈ t.lv, own i = m) : prc S own t = 0 := mn_eq (List.mem_filterMap.2 ⟨m, hm, bel_agree hm h⟩) fun x _ => Nat.zero_le _
/-- costs are small -/
def Tr.sz : Tr -> Nat
 | .lf _ => 0
 | .nd l r => 8 + (l.sz + r.sz)
theorem bel_le {S : List Int} {own : Nat -> Int} : ∀ {t : Tr}, Fit S own t -> ∀ s c, bel S own t s = some c -> c <= t.sz
 | .lf i, _, s, c, h => by
  have h : (if own i = s ∨ own i = lost then some 0 else none) = some c := h
  split at h
  ·cases h; exact Nat.zero_le _
  ·cases h
 | .nd l r, hf, s, c, h => by
  have h : _ + _ = c := Option.some.inj h
  have key : ∀ {t : Tr}, Fit S own t -> (∀ s c, bel S own t s = some c -> c <= t.sz) -> mn (S.filterMap fun q => (bel S own t q).map (· + stp s q)) <= t.sz + 4 := fun {t} ht hb => by
   obtain ⟨⟨q, _, c, hc, he⟩, _⟩ := part_spec ht s
   have := hb q c hc
   have := stp_le s q
   omega
  have h1 := key hf.l (bel_le hf.l)
  have h2 := key hf.r (bel_le hf.r)
  show c <= 8 + (l.sz + r.sz)
  omega
/-- what counts of the leaves -/
theorem bel_ext {S : List Int} {own own' : Nat -> Int} : ∀ {t : Tr}, (∀ i ∈ t.lv, own i = own' i) -> ∀ s, bel S own t s = bel S own' t s
 | .lf i, h, s => by
  show (if own i = s ∨ own i = lost then some 0 else none) = (if own' i = s ∨ own' i = lost then some 0 else none)
  rw [h i (List.mem_singleton.2 rfl)]
 | .nd l r, h, s => by
  show some _ = some _
  rw [funext (bel_ext (S := S) (t := l) fun i hi => h i (List.mem_append_left _ hi)), funext (bel_ext (S := S) (t := r) fun i hi => h i (List.mem_append_right _ hi))]
/-- the order of the states does not count -/
theorem mn_mem {l m : List Nat} (h : ∀ x, x ∈ l ↔ x ∈ m) : mn l = mn m := by
 cases l with
 | nil =>
  cases m with
  | nil => rfl
  | cons y m => exact absurd ((h y).2 List.mem_cons_self) (by simp)
 | cons x l =>
  obtain ⟨h1, h2⟩ := mn_spec (l := x :: l) (List.cons_ne_nil _ _)
  exact (mn_eq ((h _).1 h1) fun y hy => h2 y ((h y).2 hy)).symm
theorem bel_mem {S S' : List Int} {own : Nat -> Int} (h : ∀ x, x ∈ S ↔ x ∈ S') : ∀ {t : Tr} (s : Int), bel S own t s = bel S' own t s
 | .lf _, _ => rfl
 | .nd l r, s => by
  have key : ∀ {t : Tr}, (∀ s, bel S own t s = bel S' own t s) -> mn (S.filterMap fun q => (bel S own t q).map (· + stp s q)) = mn (S'.filterMap fun q => (bel S' own t q).map (· + stp s q)) := fun {t} ht => mn_mem fun x => by
   rw [List.mem_filterMap, List.mem_filterMap]
   exact ⟨fun ⟨q, h1, h2⟩ => ⟨q, (h q).1 h1, by rw [<- ht]; exact h2⟩, fun ⟨q, h1, h2⟩ => ⟨q, (h q).2 h1, by rw [ht]; exact h2⟩⟩
  show some _ = some _
  rw [key (bel_mem h), key (bel_mem h)]
theorem prc_mem {S S' : List Int} {own : Nat -> Int} (h : ∀ x, x ∈ S ↔ x ∈ S') {t : Tr} : prc S own t = prc S' own t := mn_mem fun x => by
 rw [List.mem_filterMap, List.mem_filterMap]
 exact ⟨fun ⟨q, h1, h2⟩ => ⟨q, (h q).1 h1, by rw [<- bel_mem h]; exact h2⟩, fun ⟨q, h1, h2⟩ => ⟨q, (h q).2 h1, by rw [bel_mem h]; exact h2⟩⟩
end Go.Kin.Se

/- The sets that a side may choose, by the bits of a number. Plain Lean. -/
import Derived.Test.YtcodoembnjemkaaSgMath
import Derived.RangeFuncNested
import Derived.RangeFuncLeaves
import Derived.Shelf.Abstract
import Derived.WalkKit
import Derived.OwnWalkIn
import Derived.Deep.Draws
set_option linter.unusedSectionVars false
set_option linter.unusedVariables false
set_option linter.unusedSimpArgs false
namespace Go.Kin.Sg
/-- of the first `i` elements those whose bits are set -/
def pick (ps : List Nat) (b i : Nat) : List Nat := ((List.range i).filter fun j => b.testBit j).map fun j => ps.getD j 0
theorem pick_succ {ps : List Nat} {b i : Nat} : pick ps b (i + 1) = if b.testBit i = true then pick ps b i ++ [ps.getD i 0] else pick ps b i := by
  unfold pick
  rw [List.range_succ, List.filter_append, List.map_append]
  cases h : b.testBit i <;> simp [h]
theorem pick_le {ps : List Nat} {b : Nat} : ∀ {i : Nat}, (pick ps b i).length ≤ i
  | 0 => Nat.le_refl _
  | i + 1 => by
    rw [pick_succ]
    have := pick_le (ps := ps) (b := b) (i := i)
    split
    · rw [List.length_append]; simp; omega
    · omega
theorem take_getD {ps : List Nat} {i : Nat} (h : i < ps.length) : ps.take (i + 1) = ps.take i ++ [ps.getD i 0] := by
  rw [List.take_add_one, List.getD_eq_getElem?_getD, List.getElem?_eq_getElem h]; rfl
theorem pick_sub {ps : List Nat} {b : Nat} : ∀ {i : Nat}, i ≤ ps.length → List.Sublist (pick ps b i) (ps.take i)
  | 0, _ => List.nil_sublist _
  | i + 1, h => by
    rw [pick_succ, take_getD (by omega)]
    have := pick_sub (ps := ps) (b := b) (i := i) (by omega)
    split
    · exact this.append (List.Sublist.refl _)
    · exact this.trans (List.sublist_append_left _ _)
theorem pick_congr {ps : List Nat} {b c : Nat} : ∀ {i : Nat}, (∀ j, j < i → b.testBit j = c.testBit j) → pick ps b i = pick ps c i
  | 0, _ => rfl
  | i + 1, h => by rw [pick_succ, pick_succ, h i (by omega), pick_congr fun j hj => h j (by omega)]
theorem sub_snoc {α : Type} {S l : List α} {x : α} (h : List.Sublist S (l ++ [x])) : List.Sublist S l ∨ ∃ S', S = S' ++ [x] ∧ List.Sublist S' l := by
  obtain ⟨a, b, rfl, h1, h2⟩ := List.sublist_append_iff.1 h
  cases h2 with
  | cons _ h2 =>
    cases h2
    left; rw [List.append_nil]; exact h1
  | cons_cons _ h2 =>
    cases h2
    exact .inr ⟨a, rfl, h1⟩
theorem pick_of {ps : List Nat} : ∀ {i : Nat} {S : List Nat}, i ≤ ps.length → List.Sublist S (ps.take i) → ∃ b, b < 2 ^ i ∧ pick ps b i = S
  | 0, S, _, h => ⟨0, by simp, by rw [List.take_zero] at h; rw [List.sublist_nil.1 h]; rfl⟩
  | i + 1, S, hi, h => by
    rw [take_getD (by omega)] at h
    have e : 2 ^ (i + 1) = 2 ^ i + 2 ^ i := by rw [Nat.pow_succ]; omega
    rcases sub_snoc h with h2 | ⟨S', rfl, h2⟩
    · obtain ⟨b, hb, hp⟩ := pick_of (ps := ps) (i := i) (Nat.le_of_succ_le hi) h2
      refine ⟨b, by omega, ?_⟩
      rw [pick_succ, Nat.testBit_lt_two_pow hb, if_neg (by decide), hp]
    · obtain ⟨b, hb, hp⟩ := pick_of (ps := ps) (i := i) (Nat.le_of_succ_le hi) h2
      refine ⟨2 ^ i + b, by omega, ?_⟩
      rw [pick_succ, Nat.testBit_two_pow_add_eq, Nat.testBit_lt_two_pow hb, if_pos (by decide), pick_congr (c := b) fun j hj => Nat.testBit_two_pow_add_gt hj b, hp]
/-- is a set right -/
def okC (must S : List Nat) : Bool := must.all fun q => S.contains q
theorem okC_iff {must S : List Nat} : okC must S = true ↔ ∀ x ∈ must, x ∈ S := by
  unfold okC
  rw [List.all_eq_true]
  constructor
  · intro h x hx; exact List.contains_iff_mem.1 (h x hx)
  · intro h x hx; exact List.contains_iff_mem.2 (h x hx)
/-- the first `b` numbers' sets -/
def chN (ps must : List Nat) (b : Nat) : List (List Nat) := ((List.range b).map fun c => pick ps c ps.length).filter (okC must)
theorem chN_succ {ps must : List Nat} {b : Nat} : chN ps must (b + 1) = if okC must (pick ps b ps.length) = true then chN ps must b ++ [pick ps b ps.length] else chN ps must b := by
  unfold chN
  rw [List.range_succ, List.map_append, List.filter_append]
  cases h : okC must (pick ps b ps.length) <;> simp [h]
/-- all sets -/
def allCh (ps must : List Nat) : List (List Nat) := chN ps must (2 ^ ps.length)
theorem mem_allCh {ps must S : List Nat} : S ∈ allCh ps must ↔ List.Sublist S ps ∧ ∀ x ∈ must, x ∈ S := by
  unfold allCh chN
  rw [List.mem_filter, List.mem_map, okC_iff]
  constructor
  · rintro ⟨⟨b, _, rfl⟩, h⟩
    refine ⟨?_, h⟩
    have := pick_sub (ps := ps) (b := b) (Nat.le_refl ps.length)
    rwa [List.take_length] at this
  · rintro ⟨h1, h2⟩
    obtain ⟨b, hb, hp⟩ := pick_of (Nat.le_refl ps.length) (by rwa [List.take_length])
    exact ⟨⟨b, List.mem_range.2 hb, hp⟩, h2⟩
theorem chN_pre {ps must : List Nat} : ∀ {n b : Nat}, b ≤ n → ∃ r, chN ps must n = chN ps must b ++ r := by
  intro n b h
  induction n with
  | zero => obtain rfl : b = 0 := by omega
            exact ⟨[], by simp⟩
  | succ n ih =>
    by_cases e : b = n + 1
    · subst e; exact ⟨[], by simp⟩
    · obtain ⟨r, hr⟩ := ih (by omega)
      rw [chN_succ]
      split
      · exact ⟨r ++ [pick ps n ps.length], by rw [hr, List.append_assoc]⟩
      · exact ⟨r, hr⟩
/-- the set of a number that is right has its place -/
theorem chN_at {ps must : List Nat} {b : Nat} (hb : b < 2 ^ ps.length) (ho : okC must (pick ps b ps.length) = true) : (allCh ps must)[(chN ps must b).length]? = some (pick ps b ps.length) := by
  obtain ⟨r, hr⟩ := chN_pre (ps := ps) (must := must) (n := 2 ^ ps.length) (b := b + 1) hb
  unfold allCh
  rw [hr, chN_succ, if_pos ho, List.append_assoc, List.getElem?_append_right (Nat.le_refl _), Nat.sub_self]
  rfl
theorem chN_full {ps must : List Nat} : chN ps must (2 ^ ps.length) = allCh ps must := rfl
theorem ch_mem {G : Gm} {k : Nat} {l : List Int} {S : List Nat} : Ch G k l S ↔ S ∈ allCh (may G k l) (due G k l) := mem_allCh.symm
theorem free_ch {G : Gm} {l : List Int} {S : List Nat} : List.Sublist S (free G l) ↔ S ∈ allCh (free G l) [] := by
  rw [mem_allCh]
  exact ⟨fun h => ⟨h, fun x hx => by cases hx⟩, fun h => h.1⟩
end Go.Kin.Sg

set_option linter.unusedSectionVars false
set_option linter.unusedVariables false
set_option linter.unusedSimpArgs false
namespace Go.Kin.Sg
open Classical
/-- the desk wins from a tick on -/
def Vt (G : Gm) (k : Nat) (l : List Int) : Prop := V G (G.T + 1 - k) k l
theorem Vt_end {G : Gm} {k : Nat} {l : List Int} (h : G.T < k) : Vt G k l ↔ keptP G l := by
  unfold Vt
  rw [show G.T + 1 - k = 0 by omega]
  rfl
theorem Vt_step {G : Gm} {k : Nat} {l : List Int} (h : k ≤ G.T) : Vt G k l ↔ ∀ S, Ch G k l S → ∃ D, List.Sublist D (free G (put l S (k + 1))) ∧ Vt G (k + 1) (put (put l S (k + 1)) D (k + 1)) := by
  unfold Vt
  rw [show G.T + 1 - k = (G.T + 1 - (k + 1)) + 1 by omega]
  rfl
noncomputable def goodD (G : Gm) (k : Nat) (q : List Int) (D : List Nat) : Bool := decide (Vt G (k + 1) (put q D (k + 1)))
/-- the desk's first good choice -/
noncomputable def fD (G : Gm) (k : Nat) (q : List Int) : Option (List Nat) := (allCh (free G q) []).find? (goodD G k q)
noncomputable def goodO (G : Gm) (k : Nat) (l : List Int) (S : List Nat) : Bool := !(fD G k (put l S (k + 1))).isSome
/-- the others' first good choice -/
noncomputable def fO (G : Gm) (k : Nat) (l : List Int) : Option (List Nat) := (allCh (may G k l) (due G k l)).find? (goodO G k l)
theorem fD_isSome {G : Gm} {k : Nat} {q : List Int} : (fD G k q).isSome = true ↔ ∃ D, List.Sublist D (free G q) ∧ Vt G (k + 1) (put q D (k + 1)) := by
  unfold fD
  rw [List.find?_isSome]
  constructor
  · rintro ⟨D, h1, h2⟩; exact ⟨D, free_ch.2 h1, of_decide_eq_true h2⟩
  · rintro ⟨D, h1, h2⟩; exact ⟨D, free_ch.1 h1, decide_eq_true h2⟩
theorem fO_isSome {G : Gm} {k : Nat} {l : List Int} (hk : k ≤ G.T) : (fO G k l).isSome = true ↔ ¬ Vt G k l := by
  unfold fO
  rw [List.find?_isSome, Vt_step hk]
  constructor
  · rintro ⟨S, h1, h2⟩ h
    unfold goodO at h2
    rw [fD_isSome.2 (h S (ch_mem.2 h1))] at h2
    cases h2
  · intro h
    apply Classical.byContradiction
    intro h2
    apply h
    intro S hS
    apply Classical.byContradiction
    intro h3
    refine h2 ⟨S, ch_mem.1 hS, ?_⟩
    unfold goodO
    cases h4 : (fD G k (put l S (k + 1))).isSome with
    | false => rfl
    | true => exact absurd (fD_isSome.1 h4) h3
noncomputable def vB (G : Gm) (k : Nat) (l : List Int) : Bool := decide (Vt G k l)
theorem vB_step {G : Gm} {k : Nat} {l : List Int} (hk : k ≤ G.T) : vB G k l = !(fO G k l).isSome := by
  unfold vB
  have h := fO_isSome (l := l) hk
  cases h2 : (fO G k l).isSome with
  | true => rw [decide_eq_false (h.1 h2)]; rfl
  | false => rw [decide_eq_true (Classical.byContradiction fun g => by rw [h.2 g] at h2; cases h2)]; rfl
theorem vB_end {G : Gm} {k : Nat} {l : List Int} (hk : G.T < k) : vB G k l = decide (keptP G l) := by
  unfold vB
  exact decide_eq_decide.2 (Vt_end hk)
theorem fD_some {G : Gm} {k : Nat} {q : List Int} {D : List Nat} (h : fD G k q = some D) : List.Sublist D (free G q) ∧ Vt G (k + 1) (put q D (k + 1)) :=
  ⟨free_ch.2 (List.mem_of_find?_eq_some h), of_decide_eq_true (show goodD G k q D = true from List.find?_some h)⟩
theorem fO_some {G : Gm} {k : Nat} {l : List Int} {S : List Nat} (h : fO G k l = some S) : Ch G k l S ∧ ∀ D, List.Sublist D (free G (put l S (k + 1))) → ¬ Vt G (k + 1) (put (put l S (k + 1)) D (k + 1)) := by
  refine ⟨ch_mem.2 (List.mem_of_find?_eq_some h), fun D h1 h2 => ?_⟩
  have h3 := List.find?_some h
  unfold goodO at h3
  rw [fD_isSome.2 ⟨D, h1, h2⟩] at h3
  cases h3
/-! ## What Solve and Spoil play -/
noncomputable def gD (G : Gm) (k : Nat) (q : List Int) : List Nat := (fD G k q).getD []
noncomputable def gO (G : Gm) (k : Nat) (l : List Int) : List Nat := (fO G k l).getD []
theorem gD_good {G : Gm} {k : Nat} {l : List Int} {S : List Nat} (hk : k ≤ G.T) (hS : Ch G k l S) (hv : Vt G k l) : fD G k (put l S (k + 1)) = some (gD G k (put l S (k + 1))) ∧ List.Sublist (gD G k (put l S (k + 1))) (free G (put l S (k + 1))) ∧ Vt G (k + 1) (put (put l S (k + 1)) (gD G k (put l S (k + 1))) (k + 1)) := by
  have h1 := fD_isSome.2 ((Vt_step hk).1 hv S hS)
  obtain ⟨D, hD⟩ := Option.isSome_iff_exists.1 h1
  have e : gD G k (put l S (k + 1)) = D := by unfold gD; rw [hD]; rfl
  rw [e]
  exact ⟨hD, fD_some hD⟩
theorem gO_good {G : Gm} {k : Nat} {l : List Int} (hk : k ≤ G.T) (hv : ¬ Vt G k l) : fO G k l = some (gO G k l) ∧ Ch G k l (gO G k l) ∧ ∀ D, List.Sublist D (free G (put l (gO G k l) (k + 1))) → ¬ Vt G (k + 1) (put (put l (gO G k l) (k + 1)) D (k + 1)) := by
  have h1 := (fO_isSome hk).2 hv
  obtain ⟨S, hS⟩ := Option.isSome_iff_exists.1 h1
  have e : gO G k l = S := by unfold gO; rw [hS]; rfl
  rw [e]
  exact ⟨hS, fO_some hS⟩
/-- a decision: a tick, what is known, what is done -/
structure Dec where
  k : Int
  l : List Int
  d : List Int
def decN (k : Nat) (l : List Int) (d : List Nat) : Dec := ⟨k, l, d.map fun x : Nat => (x : Int)⟩
def dec1 (k : Nat) (l : List Int) (d : List Nat) : List Dec := if d = [] then [] else [decN k l d]
abbrev Pos := Nat × List Int
noncomputable def nxD (G : Gm) (p : Pos) : List Pos := (allCh (may G p.1 p.2) (due G p.1 p.2)).map fun S => (p.1 + 1, put (put p.2 S (p.1 + 1)) (gD G p.1 (put p.2 S (p.1 + 1))) (p.1 + 1))
noncomputable def adD (G : Gm) (p : Pos) : List Dec := (allCh (may G p.1 p.2) (due G p.1 p.2)).flatMap fun S => dec1 p.1 (put p.2 S (p.1 + 1)) (gD G p.1 (put p.2 S (p.1 + 1)))
noncomputable def nxO (G : Gm) (p : Pos) : List Pos := (allCh (free G (put p.2 (gO G p.1 p.2) (p.1 + 1))) []).map fun D => (p.1 + 1, put (put p.2 (gO G p.1 p.2) (p.1 + 1)) D (p.1 + 1))
noncomputable def adO (G : Gm) (p : Pos) : List Dec := dec1 p.1 p.2 (gO G p.1 p.2)
end Go.Kin.Sg

set_option linter.unusedSectionVars false
set_option linter.unusedVariables false
set_option linter.unusedSimpArgs false
namespace Go.Kin.Sg
def kB (G : Gm) (l : List Int) : Bool := (List.range G.n).all (fun q => decide (kn l q ≠ 0)) && G.L.all fun x => decide (x.lo ≤ kn l x.to.toNat - kn l x.fr.toNat ∧ kn l x.to.toNat - kn l x.fr.toNat ≤ x.hi)
theorem kB_iff {G : Gm} {l : List Int} : kB G l = true ↔ keptP G l := by
  unfold kB keptP
  rw [Bool.and_eq_true, List.all_eq_true, List.all_eq_true]
  constructor
  · rintro ⟨h1, h2⟩
    exact ⟨fun q hq => of_decide_eq_true (h1 q (List.mem_range.2 hq)), fun x hx => of_decide_eq_true (h2 x hx)⟩
  · rintro ⟨h1, h2⟩
    exact ⟨fun q hq => decide_eq_true (h1 q (List.mem_range.1 hq)), fun x hx => decide_eq_true (h2 x hx)⟩
def VB (G : Gm) : Nat → Nat → List Int → Bool
  | 0, _, l => kB G l
  | f + 1, k, l => (allCh (may G k l) (due G k l)).all fun S => (allCh (free G (put l S (k + 1))) []).any fun D => VB G f (k + 1) (put (put l S (k + 1)) D (k + 1))
theorem VB_iff {G : Gm} : ∀ {f k : Nat} {l : List Int}, VB G f k l = true ↔ V G f k l
  | 0, _, _ => kB_iff
  | f + 1, k, l => by
    unfold VB V
    rw [List.all_eq_true]
    constructor
    · intro h S hS
      obtain ⟨D, h1, h2⟩ := List.any_eq_true.1 (h S (ch_mem.1 hS))
      exact ⟨D, free_ch.2 h1, VB_iff.1 h2⟩
    · intro h S hS
      obtain ⟨D, h1, h2⟩ := h S (ch_mem.2 hS)
      exact List.any_eq_true.2 ⟨D, free_ch.1 h1, VB_iff.2 h2⟩
theorem Vt_dec {G : Gm} {v : Bool} (h : VB G (G.T + 1) 0 (List.replicate G.n 0) = v) : Vt G 0 (List.replicate G.n 0) ↔ v = true := by
  rw [← h]; exact VB_iff.symm
/-! ## The games of sane -/
theorem v_f3 : VB ⟨3, 3, [⟨1, 2, 1, 1⟩], [⟨0, 1, 1, 2⟩]⟩ 4 0 [0, 0, 0] = true := by decide +kernel
theorem v_f2 : VB ⟨3, 2, [⟨1, 2, 1, 1⟩], [⟨0, 1, 1, 2⟩]⟩ 3 0 [0, 0, 0] = false := by decide +kernel
theorem v_g9 : VB ⟨3, 9, [⟨1, 2, -1, -1⟩], [⟨0, 1, 1, 2⟩]⟩ 10 0 [0, 0, 0] = false := by decide +kernel
theorem v_one : VB ⟨1, 1, [], []⟩ 2 0 [0] = true := by decide +kernel
end Go.Kin.Sg

set_option linter.unusedSectionVars false
set_option linter.unusedVariables false
set_option linter.unusedSimpArgs false
namespace Go
open Go.RowKit
namespace Kin

/-- The blocks of D lie as they lay; the heap has not shrunk; the world outside is the same. -/
structure Same (D : Nat → Prop) (W W' : World) : Prop where
  os : W'.os = W.os
  tape : W'.tape = W.tape
  output : W'.output = W.output
  size : W.heap.size ≤ W'.heap.size
  block : ∀ k, k < W.heap.size → D k → W'.heap[k]? = W.heap[k]?

theorem Same.refl (D : Nat → Prop) (W : World) : Same D W W := ⟨rfl, rfl, rfl, Nat.le_refl _, fun _ _ _ => rfl⟩
theorem Same.trans {D : Nat → Prop} {A B C : World} (h : Same D A B) (k : Same D B C) : Same D A C :=
  ⟨k.os.trans h.os, k.tape.trans h.tape, k.output.trans h.output, Nat.le_trans h.size k.size,
   fun i hi hd => (k.block i (Nat.lt_of_lt_of_le hi h.size) hd).trans (h.block i hi hd)⟩
theorem Same.mono {D D' : Nat → Prop} {A B : World} (h : Same D A B) (hd : ∀ k, D' k → D k) : Same D' A B :=
  ⟨h.os, h.tape, h.output, h.size, fun i hi h' => h.block i hi (hd i h')⟩
/-- as `mono`, but only blocks that lay in A count -/
theorem Same.monoLt {D D' : Nat → Prop} {A B : World} (h : Same D A B) (hd : ∀ k, k < A.heap.size → D' k → D k) : Same D' A B :=
  ⟨h.os, h.tape, h.output, h.size, fun i hi h' => h.block i hi (hd i hi h')⟩
theorem Same.alloc (D : Nat → Prop) (W : World) (o : Obj) : Same D W (W.alloc o) :=
  ⟨rfl, rfl, rfl, by simp, fun i hi _ => Below.heap_alloc W o i hi⟩
theorem Same.drew (D : Nat → Prop) (W : World) : Same D W W.drew := ⟨rfl, rfl, rfl, Nat.le_refl _, fun _ _ _ => rfl⟩
theorem Same.drewN (D : Nat → Prop) (W : World) (n : Nat) : Same D W (W.drewN n) := ⟨rfl, rfl, rfl, Nat.le_refl _, fun _ _ _ => rfl⟩
theorem Same.setCell {D : Nat → Prop} (W : World) (a : Addr) (v : Value) (h : ¬ D a.block) : Same D W (W.setCell a v) :=
  ⟨rfl, rfl, rfl, by show W.heap.size ≤ (W.heap.modify _ _).size; rw [Array.size_modify]; exact Nat.le_refl _,
   fun i _ hd => Below.heap_setCell W a v i (fun e => h (e ▸ hd))⟩
theorem Same.putObj {D : Nat → Prop} (W : World) (r : Nat) (o : Obj) (h : ¬ D r) : Same D W (W.putObj r o) :=
  ⟨rfl, rfl, rfl, by simp, fun i _ hd => World.putObj_heap_other (fun e => h (e ▸ hd))⟩
theorem Same.below {D : Nat → Prop} {B : Nat} {W W' : World} (h : Same D W W') (hB : B ≤ W.heap.size) (hd : ∀ k, k < B → D k) : Below B W W' :=
  ⟨h.os, h.tape, h.output, h.size, fun k hk => h.block k (Nat.lt_of_lt_of_le hk hB) (hd k hk)⟩
/-- `Below` at the heap's own size keeps all. -/
theorem Same.of_below_all {D : Nat → Prop} {W W' : World} (h : Below W.heap.size W W') : Same D W W' :=
  ⟨h.os, h.tape, h.output, h.size, fun k hk _ => h.block k hk⟩
theorem lt_of_heap {W : World} {k : Nat} {o : Obj} (h : W.heap[k]? = some o) : k < W.heap.size := (Array.getElem?_eq_some_iff.1 h).1
theorem Same.obj {D : Nat → Prop} {W W' : World} (h : Same D W W') {k : Nat} {o : Obj} (hk : W.heap[k]? = some o) (hd : D k) : W'.heap[k]? = some o :=
  (h.block k (lt_of_heap hk) hd).trans hk
theorem lt_of_cell {W : World} {a : Addr} {v : Value} (h : W.cell? a = some v) : a.block < W.heap.size := by
  unfold World.cell? at h
  cases ho : W.heap[a.block]? with
  | none => rw [ho] at h; cases h
  | some o => exact lt_of_heap ho
theorem Same.cell {D : Nat → Prop} {W W' : World} (h : Same D W W') {a : Addr} {v : Value} (hc : W.cell? a = some v) (hd : D a.block) : W'.cell? a = some v := by
  have := h.block a.block (lt_of_cell hc) hd
  unfold World.cell? at hc ⊢; rw [this]; exact hc
theorem Same.frozen {D : Nat → Prop} {W W' : World} (h : Same D W W') {a : Addr} (hl : a.block < W.heap.size) (hd : D a.block) : W'.frozen? a = W.frozen? a := by
  have := h.block a.block hl hd
  unfold World.frozen?; rw [this]

/-- A box: one cell, not frozen, in a block of its own. -/
def Box (W : World) (b : Nat) (t : TypeId) (v : Value) : Prop := W.heap[b]? = some (.cells #[v] t (0, 0))
theorem Box.keep {D : Nat → Prop} {W W' : World} {b : Nat} {t : TypeId} {v : Value} (h : Box W b t v) (hs : Same D W W') (hd : D b) : Box W' b t v := hs.obj h hd
theorem Box.cell {W : World} {b : Nat} {t : TypeId} {v : Value} (h : Box W b t v) : W.cell? ⟨b, 0, none⟩ = some v := by
  unfold World.cell?; rw [show W.heap[b]? = _ from h]; rfl
theorem Box.frozen {W : World} {b : Nat} {t : TypeId} {v : Value} (h : Box W b t v) : W.frozen? ⟨b, 0, none⟩ = false := by
  unfold World.frozen?; rw [show W.heap[b]? = _ from h]; rfl
theorem Box.lt {W : World} {b : Nat} {t : TypeId} {v : Value} (h : Box W b t v) : b < W.heap.size := lt_of_heap h
theorem Box.new (W : World) (t : TypeId) (v : Value) : Box (W.alloc (.cells #[v] t (0, 0))) W.heap.size t v := World.alloc_heap_new W _
theorem Box.set {W : World} {b : Nat} {t : TypeId} {v : Value} (h : Box W b t v) (u : Value) : Box (W.setCell ⟨b, 0, none⟩ u) b t u := by
  unfold Box World.setCell
  show (W.heap.modify b _)[b]? = _
  have hl := h.lt
  rw [Array.getElem?_eq_getElem (by rw [Array.size_modify]; exact hl), Array.getElem_modify_self]
  have : W.heap[b] = .cells #[v] t (0, 0) := by
    have h' : W.heap[b]? = some (.cells #[v] t (0, 0)) := h
    rw [Array.getElem?_eq_getElem hl] at h'; exact Option.some.inj h'
  rw [this]; rfl
theorem Box.other {W : World} {b b' : Nat} {t : TypeId} {v : Value} (h : Box W b t v) (hne : b ≠ b') (o : Nat) (u : Value) : Box (W.setCell ⟨b', o, none⟩ u) b t v :=
  (Below.heap_setCell W ⟨b', o, none⟩ u b hne).trans h
theorem Box.alloc {W : World} {b : Nat} {t : TypeId} {v : Value} (h : Box W b t v) (o : Obj) : Box (W.alloc o) b t v := (Below.heap_alloc W o b h.lt).trans h

/-- W is w1 with new blocks: all that lay lies as it lay. -/
def Later (w1 W : World) : Prop := Below w1.heap.size w1 W
theorem Later.refl (w : World) : Later w w := Below.refl _ _
theorem Later.trans {a b c : World} (h : Later a b) (k : Later b c) : Later a c := Below.trans h (Below.mono k h.size)
theorem Later.step {a b c : World} (h : Later a b) (k : Below b.heap.size b c) : Later a c := Below.trans h (Below.mono k h.size)
theorem Later.cell {a b : World} (h : Later a b) {p : Addr} {v : Value} (hc : a.cell? p = some v) : b.cell? p = some v := (Below.cell h (lt_of_cell hc)).trans hc
theorem Later.frozen {a b : World} (h : Later a b) {p : Addr} {f : Bool} (hl : p.block < a.heap.size) (hf : a.frozen? p = f) : b.frozen? p = f := (Below.frozen h hl).trans hf
theorem Later.below {a b w0 : World} {B : Nat} (h : Later a b) (k : Below B w0 a) (hB : B ≤ a.heap.size) : Below B w0 b := k.trans (Below.mono h hB)
theorem Later.size {a b : World} (h : Later a b) : a.heap.size ≤ b.heap.size := Below.size h

/-- What the body of a function must achieve where it may hold ranges over functions. -/
def bodyPostK (P : Program) (fn : Func) (R : Ending → World → Prop) : Exit → Act → World → Prop := bodyPostM Fence.wide 0 P fn R

theorem calls_of_wpK {P : Program} {f : FuncId} {fn : Func} {c : Code} {args : Array Value} {w : World} {R : Ending → World → Prop}
    (hf : P.funcs[f]? = some fn) (hb : fn.body = some c)
    (h : c.wp P (bodyPostK P fn R) { tmps := args ++ Array.replicate (fn.ntmps - args.size) undef, defers := [] } w) : Calls P f args w R :=
  callsIn_wide.1 (callsIn_of_wp_marks (F := Fence.wide) (n := 0) hf hb trivial (wpIn_wide.2 h))

/-- the end, no mark -/
theorem bodyPostK_ret0 {P : Program} {fn : Func} {R : Ending → World → Prop} {a : Act} {w : World} {v : Value} (hd : a.defers = [])
    (hr : (results fn a.tmps).run P w = .ok v w) (hR : R (.returned v) w) : bodyPostK P fn R .ret a w := by
  show LeavesInM _ _ _ _ _ _ a.defers _ _
  rw [hd]; exact ⟨v, hr, hR⟩
theorem bodyPostK_end0 {P : Program} {fn : Func} {R : Ending → World → Prop} {a : Act} {w : World} {v : Value} (hd : a.defers = [])
    (hr : (results fn a.tmps).run P w = .ok v w) (hR : R (.returned v) w) : bodyPostK P fn R .normal a w := by
  show LeavesInM _ _ _ _ _ _ a.defers _ _
  rw [hd]; exact ⟨v, hr, hR⟩
end Kin
end Go

set_option linter.unusedSectionVars false
set_option linter.unusedVariables false
set_option linter.unusedSimpArgs false
namespace Go
open Go.RowKit
namespace Kin

/-! ## The end of a function that gathered marks -/

def mark (D : Nat) : Deferred := { target := .collected D, args := #[] }

/-- The world with all marks' blocks shut. -/
def shut : List Nat → World → World
  | [], w => w
  | D :: Ds, w => shut Ds (w.putObj D (.deferred none))

/-- All marks' blocks lie open, each in a block of its own. -/
def Marks (Ds : List Nat) (w : World) : Prop := Ds.Nodup ∧ ∀ D ∈ Ds, w.heap[D]? = some (.deferred (some []))

theorem Marks.tail {D : Nat} {Ds : List Nat} {w : World} (h : Marks (D :: Ds) w) : Marks Ds (w.putObj D (.deferred none)) := by
  obtain ⟨h1, h2⟩ := h
  rw [List.nodup_cons] at h1
  exact ⟨h1.2, fun E hE => (World.putObj_heap_other (r := D) (fun e => by subst e; exact h1.1 hE)).trans (h2 E (List.mem_cons_of_mem _ hE))⟩

theorem Marks.keep {Ds : List Nat} {w w' : World} {D : Nat → Prop} (h : Marks Ds w) (hs : Same D w w') (hD : ∀ d ∈ Ds, D d) : Marks Ds w' :=
  ⟨h.1, fun d hd => hs.obj (h.2 d hd) (hD d hd)⟩

theorem shut_same (Ds : List Nat) (w : World) : Same (fun b => b ∉ Ds) w (shut Ds w) := by
  induction Ds generalizing w with
  | nil => exact Same.refl _ _
  | cons D Ds ih =>
    exact (Same.putObj (D := fun b => b ∉ D :: Ds) w D _ (fun h => h List.mem_cons_self)).trans
      ((ih _).mono fun b hb h => hb (List.mem_cons_of_mem _ h))

theorem leaves_marks {P : Program} {fn : Func} {tmps : Array Value} {R : Ending → World → Prop} {v : Value} (Ds : List Nat) (w : World) (h : Marks Ds w)
    (hr : (results fn tmps).run P (shut Ds w) = .ok v (shut Ds w)) (hR : R (.returned v) (shut Ds w)) :
    LeavesInM Fence.wide 0 P fn tmps R (Ds.map mark) .returning w := by
  induction Ds generalizing w with
  | nil => exact ⟨v, hr, hR⟩
  | cons D Ds ih =>
    exact ⟨by simp, .inl ⟨D, _, rfl, run_takeDeferred (h.2 D List.mem_cons_self), ih _ h.tail hr hR⟩⟩

theorem bodyPostK_rets {P : Program} {fn : Func} {R : Ending → World → Prop} {a : Act} {w : World} {v : Value} {Ds : List Nat} (hd : a.defers = Ds.map mark) (h : Marks Ds w)
    (hr : (results fn a.tmps).run P (shut Ds w) = .ok v (shut Ds w)) (hR : R (.returned v) (shut Ds w)) : bodyPostK P fn R .ret a w := by
  show LeavesInM _ _ _ _ _ _ a.defers _ _
  rw [hd]; exact leaves_marks Ds w h hr hR

end Kin
end Go

set_option linter.unusedSectionVars false
set_option linter.unusedVariables false
set_option linter.unusedSimpArgs false
namespace Go
open Go.RowKit
namespace Kin
end Kin
end Go

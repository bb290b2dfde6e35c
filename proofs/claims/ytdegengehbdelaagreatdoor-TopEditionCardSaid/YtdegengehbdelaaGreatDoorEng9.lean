/- The engine's rules for regions that draw their order: a quiet head, and then the rest in whatever order. Generic: no program is named here. -/
import Derived.Test.YtdegengehbdelaaGreatDoorEng6
import Derived.StillTail
import Derived.Scope
set_option linter.unusedSectionVars false
set_option linter.unusedVariables false
set_option linter.unusedSimpArgs false
namespace Go
open Go.RowKit
namespace Kin

def tailArr (size n : Nat) : Array Bool := ⟨(List.range size).map (fun i => decide (i < n))⟩
theorem tailArr_getD (size n i : Nat) (d : Bool) : (tailArr size n).getD i d = if i < size then decide (i < n) else d := by
 simp only [tailArr, Array.getD_eq_getD_getElem?, List.getElem?_toArray, List.getElem?_map]
 by_cases h : i < size
 ·simp [h]
 ·simp [h]
theorem tailArr_zero (size : Nat) : tailArr size 0 = Array.replicate size false := by
 apply Array.ext'
 simp only [tailArr, Array.toList_replicate]
 apply List.ext_getElem?
 intro i
 by_cases h : i < size
 ·simp [h]
 ·simp [h]
theorem tailArr_succ (size n : Nat) : (tailArr size n).setIfInBounds n true = tailArr size (n + 1) := by
 apply Array.ext'
 simp only [tailArr, Array.toList_setIfInBounds]
 apply List.ext_getElem?
 intro i
 simp only [List.getElem?_set, List.getElem?_map, List.length_map, List.length_range]
 by_cases h : i < size
 ·by_cases h2 : n = i
  ·subst h2; simp [h]
  ·have : (i < n) = (i < n + 1) := by apply propext; omega
   simp [h2, h, this]
 ·by_cases h2 : n = i
  ·subst h2; simp [h]
  ·simp [h2, h]

def headB (ops : Array Oper) (n : Nat) : Bool :=
 Region.noSelect ops && Nat.ble n ops.size &&
 (List.range n).all (fun k => (Region.ready .any ops (tailArr ops.size k)).contains k && Region.free .any ops (tailArr ops.size k) k) &&
 (List.range ops.size).all (fun j => decide (j < n) || (List.range n).all (fun i => Region.waitsFor .any ops j i))

section
variable {P : Program} {ops : Array Oper} {C : World -> Prop}

/-- Whatever order the head is picked in. -/
def wpAnyH (P : Program) (ops : Array Oper) (C : World -> Prop) (n : Nat) (Lq : Act -> Prop) : Nat -> Array Bool -> Act -> Prop
 | 0, listed, a => listed = tailArr ops.size n /\ Lq a
 | f + 1, listed, a => Region.ready .any ops listed ≠ [] /\ ∀ i ∈ Region.ready .any ops listed, qOp P ops C i (wpAnyH P ops C n Lq f (listed.setIfInBounds i true)) a

theorem wpAnyIn_of_head {F : Fence} [Wide F] {m n g : Nat} {Q : Exit -> Act -> World -> Prop} {Lq : Act -> Prop} (hL : ∀ a W, C W -> Lq a -> wpAnyIn F m P .any ops Q g (tailArr ops.size n) a W) :
  ∀ (f : Nat) (listed : Array Bool) (a : Act) (W : World), C W -> wpAnyH P ops C n Lq f listed a -> wpAnyIn F m P .any ops Q (f + g) listed a W
 | 0, listed, a, W, hC, h => by rw [Nat.zero_add, h.1]; exact hL _ _ hC h.2
 | f + 1, listed, a, W, hC, h => by
  rw [show f + 1 + g = (f + g) + 1 by omega]
  exact ⟨fun h0 => absurd h0 h.1, fun i hi => wpOpIn_of_qOp hC (fun a' w' hw' h' => wpAnyIn_of_head hL f _ a' w' hw' h') (h.2 i hi)⟩

theorem wpAnyH_first {n i : Nat} {oi : Oper} {v : Value} {Lq : Act -> Prop} (hi : ops[i]? = some oi) (hsel : ∀ (j : Nat) (o : Oper) cs b, ops[j]? = some o -> o.op ≠ .select cs b) (hin : i < n) (hn : n <= ops.size)
  (htail : ∀ j, n <= j -> j < ops.size -> ∀ i, i < n -> Region.waitsFor .any ops j i = true) :
  ∀ (f : Nat) (listed : Array Bool) (a : Act),
   (∀ j oj, ops[j]? = some oj -> j ≠ i -> listed.getD j true = false -> (∀ e ∈ oj.after, Region.binds .any e = true -> e.on ≠ i) -> oi.apart ops oj = true) ->
   i ∈ Region.ready .any ops listed -> YieldsIn P ops C oi v a ->
   wpAnyH P ops C n Lq f (listed.setIfInBounds i true) (a.put oi.dst v) -> wpAnyH P ops C n Lq (f + 1) listed a := by
 intro f
 induction f with
 | zero =>
  intro listed a _ hr hy H
  refine ⟨fun h => (by rw [h] at hr; cases hr), fun j hj => ?_⟩
  by_cases hji : j = i
  ·subst hji; exact hy.qOp hi H
  ·exfalso
   have h1 := (mem_ready.1 (ready_mono hj hji)).1
   rw [H.1, tailArr_getD] at h1
   obtain ⟨_, oj, hoj, hall⟩ := mem_ready.1 hj
   have hjs : j < ops.size := by
    rcases Nat.lt_or_ge j ops.size with h | h
    ·exact h
    ·rw [Array.getElem?_eq_none h] at hoj; cases hoj
   rw [if_pos hjs] at h1
   have hjn : n <= j := by simpa using h1
   obtain ⟨oj', hoj', e, he, hb, hon⟩ := Region.waitsFor_spec (htail j hjn hjs i hin)
   rw [hoj] at hoj'; cases hoj'
   have h2 := hall e he hb
   rw [hon] at h2
   have h3 := (mem_ready.1 hr).1
   rcases Nat.lt_or_ge i listed.size with h' | h'
   ·simp [h'] at h2 h3; rw [h2] at h3; cases h3
   ·simp [Array.getElem?_eq_none h'] at h2
 | succ f ih =>
  intro listed a hfree hr hy H
  refine ⟨fun h => (by rw [h] at hr; cases hr), fun j hj => ?_⟩
  by_cases hji : j = i
  ·subst hji; exact hy.qOp hi H
  ·have h1 := H.2 j (ready_mono hj hji)
   obtain ⟨hjun, oj, hoj, hall⟩ := mem_ready.1 hj
   have hnot : ∀ e ∈ oj.after, Region.binds .any e = true -> e.on ≠ i := fun e he hb heq => by
    have h1 := hall e he hb
    have h0 := (mem_ready.1 hr).1
    rw [heq] at h1
    rcases Nat.lt_or_ge i listed.size with h' | h'
    ·simp [h'] at h0 h1; rw [h0] at h1; cases h1
    ·simp [Array.getElem?_eq_none h'] at h1
   have h2 := qOp_put hoj (hfree j oj hoj hji hjun hnot) (fun cs b => hsel i oi cs b hi) (fun cs b => hsel j oj cs b hoj) hy h1
   have hfree' : ∀ k ok, ops[k]? = some ok -> k ≠ i -> (listed.setIfInBounds j true).getD k true = false ->
     (∀ e ∈ ok.after, Region.binds .any e = true -> e.on ≠ i) -> oi.apart ops ok = true := fun k ok hk hki hun hno => by
    refine hfree k ok hk hki ?_ hno
    by_cases hjk : j = k
    ·subst hjk; exact hjun
    ·rw [getD_set_ne true hjk] at hun; exact hun
   refine qOp_mono (fun a' h3 => ih (listed.setIfInBounds j true) a' hfree' (ready_mono hr (Ne.symm hji)) h3.1 ?_) h2
   rw [Array.setIfInBounds_comm _ _ hji]
   exact h3.2

theorem wpAnyH_lex {n : Nat} {Lq : Act -> Prop} (hB : headB ops n = true) : ∀ (l : List Oper) (k : Nat) (a : Act), (∀ j, j < l.length -> l[j]? = ops[k + j]?) -> k + l.length = n ->
  wpQuiet P ops C Lq l a -> wpAnyH P ops C n Lq l.length (tailArr ops.size k) a
 | [], k, a, _, hk, h => ⟨by rw [show k = n by simpa using hk], h⟩
 | o :: l, k, a, hl, hk, h => by
  have hB' := hB
  simp only [headB, Bool.and_eq_true] at hB'
  obtain ⟨⟨⟨hsel, hn⟩, hlex⟩, htl⟩ := hB'
  simp only [List.length_cons] at hk
  have hkn : k < n := by omega
  have h0 : ops[k]? = some o := by simpa using (hl 0 (by simp)).symm
  have hk2 := List.all_eq_true.1 hlex k (List.mem_range.2 hkn)
  simp only [Bool.and_eq_true] at hk2
  have htail : ∀ j, n <= j -> j < ops.size -> ∀ i, i < n -> Region.waitsFor .any ops j i = true := fun j hj hjs i hin => by
   have h1 := List.all_eq_true.1 htl j (List.mem_range.2 hjs)
   simp only [Bool.or_eq_true, decide_eq_true_eq] at h1
   rcases h1 with h1 | h1
   ·omega
   ·exact List.all_eq_true.1 h1 i (List.mem_range.2 hin)
  have hst : qOp P ops C k (wpQuiet P ops C Lq l) a := by unfold qOp; simp only [h0]; exact h
  obtain ⟨v, hy, hK⟩ := yieldsIn_of_qOp h0 hst
  refine wpAnyH_first h0 (Region.noSelect_spec hsel) hkn (Nat.le_of_ble_eq_true hn) htail l.length (tailArr ops.size k) a (Region.free_spec h0 hk2.2) (by simpa using hk2.1) hy ?_
  rw [tailArr_succ]
  exact wpAnyH_lex hB l (k + 1) _ (fun j hj => by have := hl (j + 1) (by simp; omega); simpa [Nat.add_assoc, Nat.add_comm 1 j] using this) (by omega) hK
end

section
variable {P : Program} {N : Nat} {c : Cx} {Q : Exit -> Act -> World -> Prop} {env : List (Nat × Value)} {mem : List (Nat × Obj)} {L l : List Oper} [Wide c.F]
 {tt : List (TypeId × TI)} {d : Nat} {ty : TypeId} {pos : String} {af : Array Edge} {g : Option (Nat × Bool)} {dd : Option Tmp}

/-- The rest of a region, in whatever order. -/
structure RunA (P : Program) (N : Nat) (c : Cx) (L : List Oper) (Q : Exit -> Act -> World -> Prop) (f : Nat) (listed : Array Bool) (env : List (Nat × Value)) (mem : List (Nat × Obj)) : Prop where
 run : ∀ a W, SatA N c.ds env a -> SatW c.w0 c.D c.J mem W -> wpAnyIn c.F c.n P .any L.toArray Q f listed a W

/-- The head of a region, and then the rest. -/
structure RunH (P : Program) (N : Nat) (c : Cx) (L : List Oper) (n : Nat) (l : List Oper) (Q : Exit -> Act -> World -> Prop) (env : List (Nat × Value)) (mem : List (Nat × Obj)) : Prop where
 run : ∀ a, SatA N c.ds env a -> wpQuiet P L.toArray (SatW c.w0 c.D c.J mem) (fun a' => ∀ W, SatW c.w0 c.D c.J mem W -> wpAnyIn c.F c.n P .any L.toArray Q (L.length - n) (tailArr L.length n) a' W) l a

theorem c_head [M : Mixed P] {id : Nat} (n : Nat) {hd : List Oper} (hB : headB l.toArray n = true) (hh : l.take n = hd) (k : RunH P N c l n hd Q env mem) : RunC P N c (.region id l.toArray true) Q env mem := .mk fun a W ha hm => by
 subst hh
 have hB' := hB
 simp only [headB, Bool.and_eq_true] at hB'
 have hn := Nat.le_of_ble_eq_true hB'.1.1.2
 simp only [List.size_toArray] at hn
 have hlt : (l.take n).length = n := by rw [List.length_take]; omega
 refine wpIn_region_any M.ok ?_
 have H := wpAnyH_lex (P := P) (C := SatW c.w0 c.D c.J mem) (Lq := fun a' => ∀ W, SatW c.w0 c.D c.J mem W -> wpAnyIn c.F c.n P .any l.toArray Q (l.length - n) (tailArr l.length n) a' W) hB (l.take n) 0 a
  (fun j hj => by rw [hlt] at hj; simp [hj]) (by omega) (k.run a ha)
 have H2 := wpAnyIn_of_head (F := c.F) (m := c.n) (n := n) (g := l.length - n) (Q := Q) (fun a' W' hC hq => by simpa using hq W' hC) _ _ _ _ hm.drew H
 rw [hlt, show n + (l.length - n) = l.toArray.size by simp; omega, tailArr_zero] at H2
 exact H2

theorem h_val {n : Nat} {op : Op} {v : Value} (hw : wantB L env g = some true) (hd : Nat.blt d N = true)
  (hv : OpVal P N c env mem ⟨some d, op, ty, pos, af, g⟩ v) (k : RunH P N c L n l Q ((d, v) :: env) mem) : RunH P N c L n (⟨some d, op, ty, pos, af, g⟩ :: l) Q env mem := .mk fun a ha => by
 show if _ then _ else _
 rw [if_pos (wanted_of (o := ⟨some d, op, ty, pos, af, g⟩) hw ha)]
 refine ⟨v, fun W hm => ?_, k.run _ (ha.put hd v)⟩
 unfold Oper.quietAt
 rw [hv.2 a W ha hm]
 exact ⟨rfl, rfl⟩

theorem h_call {n : Nat} {f : FuncId} [Ent P f] {args : List Operand} {ats : Array TypeId} {vs : List Value} {v : Value} (hw : wantB L env g = some true) (hd : Nat.blt d N = true) (ha : evOps env args some = some vs)
  (hc : ∀ W, SatW c.w0 c.D c.J mem W -> Calls P f ⟨vs⟩ W fun e W' => e = .returned v /\ Below W.heap.size W W')
  (k : RunH P N c L n l Q ((d, v) :: env) mem) : RunH P N c L n (⟨some d, .call ⟨.value (.func f), ⟨args⟩, ats⟩, ty, pos, af, g⟩ :: l) Q env mem := .mk fun a hA => by
 show if _ then _ else _
 rw [if_pos (wanted_of (o := ⟨some d, .call ⟨.value (.func f), ⟨args⟩, ats⟩, ty, pos, af, g⟩) hw hA)]
 refine ⟨v, fun W hm => ?_, k.run _ (hA.put hd v)⟩
 have h1 := hA.evals ha
 simp only [Option.some.injEq] at h1
 unfold Oper.quietAt
 rw [p_call, h1]
 exact ⟨rfl, (hc W hm).mono fun _ W' ⟨h2, h3⟩ => ⟨h2, hm.later h3⟩⟩

theorem h_nil {n : Nat} (k : RunA P N c L Q (L.length - n) (tailArr L.length n) env mem) : RunH P N c L n [] Q env mem := .mk fun a ha => wpQuiet_nil fun W hm => k.run a W ha hm

theorem a_done {f : Nat} {listed : Array Bool} (hr : Region.ready .any L.toArray listed = []) (k : RunX N c Q .normal env mem) : RunA P N c L Q f listed env mem := .mk fun a W ha hm => wpAnyIn_done hr (k.run a W ha hm) f

theorem a_step {f i : Nat} {listed : Array Bool} {rs : List Nat} (hr : Region.ready .any L.toArray listed = rs) (hne : rs ≠ []) (k : ∀ i ∈ rs, ∀ a W, SatA N c.ds env a -> SatW c.w0 c.D c.J mem W -> wpOpIn c.F c.n P L.toArray Q i (wpAnyIn c.F c.n P .any L.toArray Q f (listed.setIfInBounds i true)) a W) :
  RunA P N c L Q (f + 1) listed env mem := .mk fun a W ha hm => wpAnyIn_all hr hne fun i hi => k i hi a W ha hm

theorem op_do {f i : Nat} {listed listed' : Array Bool} {op : Op} {mem' : List (Nat × Obj)} (hi : nth L i = some ⟨none, op, ty, pos, af, g⟩) (hw : wantB L env g = some true) (hl : listed.setIfInBounds i true = listed')
  (hv : OpDo P N c env mem ⟨none, op, ty, pos, af, g⟩ mem') (k : RunA P N c L Q f listed' env mem') : ∀ a W, SatA N c.ds env a -> SatW c.w0 c.D c.J mem W -> wpOpIn c.F c.n P L.toArray Q i (wpAnyIn c.F c.n P .any L.toArray Q f (listed.setIfInBounds i true)) a W := fun a W ha hm => by
 subst hl
 unfold wpOpIn
 rw [nth_eq] at hi
 simp only [List.getElem?_toArray, hi, wanted_of (o := ⟨none, op, ty, pos, af, g⟩) hw ha, if_true]
 obtain ⟨W', h1, h2⟩ := hv.2 a W ha hm
 refine ⟨fun f _ => Wide.fn c.F f, ?_⟩
 rw [semAt_plain _ hv.1, h1]
 exact k.run _ _ ha h2

theorem a_one {f i : Nat} {listed : Array Bool} (hr : Region.ready .any L.toArray listed = [i]) (k : ∀ a W, SatA N c.ds env a -> SatW c.w0 c.D c.J mem W -> wpOpIn c.F c.n P L.toArray Q i (wpAnyIn c.F c.n P .any L.toArray Q f (listed.setIfInBounds i true)) a W) :
  RunA P N c L Q (f + 1) listed env mem := a_step (i := i) hr (by simp) fun j hj => by rw [List.mem_singleton.1 hj]; exact k

/-- the shape of a region: `n` operations that only read, `f` more. -/
def readOp : Op -> Bool
 | .store .. => false
 | .alloc _ => false
 | .box .. => false
 | .buildSlice .. => false
 | .makeSlice .. => false
 | .makeMap .. => false
 | .mapUpdate .. => false
 | .insert .. => false
 | .call ⟨.builtin .append, _, _⟩ => false
 | .call ⟨.builtin .copy, _, _⟩ => false
 | _ => true
def reads : List Oper -> Nat -> Bool
 | _, 0 => true
 | o :: l, n + 1 => bif readOp o.op then reads l n else false
 | [], _ + 1 => false
def allRead : List Oper -> Bool
 | [] => true
 | o :: l => bif readOp o.op then allRead l else false

theorem c_reads [M : Mixed P] {id : Nat} (_ : allRead l = true) (hB : Region.lexB .any l.toArray = true) (k : RunQ P N c l l Q env mem) : RunC P N c (.region id l.toArray true) Q env mem := c_quiet hB k

def splitK {β : Type} : List Oper -> Nat -> (Nat -> List Oper -> Option β) -> Option β
 | o :: l, j, k => bif readOp o.op then splitK l (j + 1) fun n r => k n (o :: r) else k j []
 | [], _, _ => none

theorem splitK_eq {β : Type} {l : List Oper} {j : Nat} {k : Nat -> List Oper -> Option β} {r : β} (h : splitK l j k = some r) : ∃ m, m <= l.length /\ k (j + m) (l.take m) = some r := by
 induction l generalizing j k with
 | nil => cases h
 | cons o l ih =>
  simp only [splitK] at h
  cases hb : readOp o.op with
  | false => rw [hb] at h; exact ⟨0, by simp, h⟩
  | true =>
   rw [hb] at h
   obtain ⟨m, h1, h2⟩ := ih h
   exact ⟨m + 1, by simpa using h1, by rw [show j + (m + 1) = j + 1 + m by omega]; exact h2⟩

theorem c_cut [M : Mixed P] {id n : Nat} {hd : List Oper} (hs : splitK l 0 (fun n r => some (n, r)) = some (n, hd)) (hB : headB l.toArray n = true) (k : RunH P N c l n hd Q env mem) : RunC P N c (.region id l.toArray true) Q env mem := by
 obtain ⟨m, _, h2⟩ := splitK_eq hs
 simp only [Nat.zero_add, Option.some.injEq, Prod.mk.injEq] at h2
 obtain ⟨rfl, h3⟩ := h2
 exact c_head m hB h3 k

theorem h_do1 {n : Nat} {op : Op} {mem' : List (Nat × Obj)} (hlen : L.length = n + 1) (hr : Region.ready .any L.toArray (tailArr (n + 1) n) = [n]) (hr2 : Region.ready .any L.toArray (tailArr (n + 1) (n + 1)) = [])
  (hi : nth L n = some ⟨none, op, ty, pos, af, g⟩) (hw : wantB L env g = some true) (hv : OpDo P N c env mem ⟨none, op, ty, pos, af, g⟩ mem') (k : RunX N c Q .normal env mem') : RunH P N c L n [] Q env mem :=
 h_nil (by
  rw [hlen, show n + 1 - n = 0 + 1 by omega]
  exact a_one hr (op_do hi hw (tailArr_succ (n + 1) n) hv (a_done hr2 k)))

/-! ## Where ways meet -/
theorem c_probe {id : Nat} {ops : Array Oper} {dr : Bool} {y z : Code} (k : RunC P N c (.seq (.seq (.region id ops dr) y) z) Q env mem) : RunC P N c (.seq (.seq (.region id ops dr) y) z) Q env mem := k
theorem c_probe1 {id : Nat} {ops : Array Oper} {dr : Bool} {y : Code} (k : RunC P N c (.seq (.region id ops dr) y) Q env mem) : RunC P N c (.seq (.region id ops dr) y) Q env mem := k

/-! ## Arrays of numbers -/
def ivec (n : Nat) (f : Nat -> Int) : List Value := vec n fun i => .int .i64 (f i)
def iset {α : Type} (f : Nat -> α) (i : Nat) (v : α) : Nat -> α := fun x => if x = i then v else f x
theorem ivec_length (n : Nat) (f : Nat -> Int) : (ivec n f).length = n := vec_length _ _
theorem ivec_get {n : Nat} {f : Nat -> Int} {i : Nat} (h : i < n) : (ivec n f)[i]? = some (.int .i64 (f i)) := vec_get h
theorem ivec_set {n : Nat} {f : Nat -> Int} {i : Nat} {v : Int} : (ivec n f).set i (.int .i64 v) = ivec n (iset f i v) := by
 unfold ivec; rw [vec_set]; congr 1; funext j; simp only [iset]; split <;> rfl
theorem flat_int {n : Nat} {v : Int} : (flat n fun _ => [Value.int .i64 v]) = ivec n fun _ => v := flat_one
end
end Kin
end Go

namespace Go
open Go.RowKit
namespace Kin
theorem aggL {l : List Value} : cellsL (.agg ⟨l⟩) = l := rfl
theorem MSub.refl : ∀ m : List (Nat × Obj), MSub m m
 | [] => .nil
 | (_, _) :: m => .keep rfl (MSub.refl m)

section
variable {P : Program} {b : Frame} {k : List Item} {cs : List Frame} {a : Act} {w : World}
theorem stepR_scope {c : Code} : step P (lone (b.atR a (.code (.scope c) :: k)) cs w) = .next (lone (b.atR a (.code c :: .inScope c :: k)) cs w) :=
 step_lone_go (by simp [stepG, stepG.exec, Frame.atR])
theorem stepR_inScope {c : Code} : step P (lone (b.atR a (.inScope c :: k)) cs w) = .next (lone (b.atR a k) cs w) :=
 step_lone_go (by simp [stepG, stepG.exec, Frame.atR])
end

/-- a scope through which the run goes without a goto -/
theorem wpIn_scope {F : Fence} {n : Nat} {P : Program} {Q : Exit -> Act -> World -> Prop} {a : Act} {w : World} {c : Code} (h : c.wpIn F n P (Exit.noGoto Q) a w) : (Code.scope c).wpIn F n P Q a w := by
 intro b k cs hro hb hr
 have h0 : (lone (b.atR a (.code (.scope c) :: k)) cs w).fenced P F := fenced_calm hb hr rfl
 obtain ⟨e, a₁, w₁, hq, harr⟩ := h b (.inScope c :: k) cs hro hb hr
 cases e with
 | normal => exact ⟨.normal, a₁, w₁, hq, .head h0 stepR_scope (StepsIn.trans harr (.one (fenced_calm hb hr rfl) stepR_inScope))⟩
 | exit id =>
  have hx : exitTo id (.inScope c :: k) = exitTo id k := by simp [exitTo]
  exact ⟨.exit id, a₁, w₁, hq, fun k' hk => .head h0 stepR_scope (harr.1 k' (by rw [hx]; exact hk)),
   fun hr' hk => let ⟨k₁, h1, h2⟩ := harr.2 hr' (by rw [hx]; exact hk); ⟨k₁, h1, .head h0 stepR_scope h2⟩⟩
 | goto l => exact hq.elim
 | ret => exact ⟨_, a₁, w₁, hq, .of_steps (.one h0 stepR_scope) harr⟩
 | panic ch => exact ⟨_, a₁, w₁, hq, .of_steps (.one h0 stepR_scope) harr⟩
 | outgrown => exact ⟨_, a₁, w₁, hq, .of_steps (.one h0 stepR_scope) harr⟩

section
variable {P : Program} {N : Nat} {c : Cx} {Q : Exit -> Act -> World -> Prop} {env : List (Nat × Value)} {mem : List (Nat × Obj)}
theorem c_scope {x : Code} (k : RunC P N c x (Exit.noGoto Q) env mem) : RunC P N c (.scope x) Q env mem := .mk fun a W ha hw => wpIn_scope (k.run a W ha hw)
theorem x_scope_ret (k : RunX N c Q .ret env mem) : RunX N c (Exit.noGoto Q) .ret env mem := .mk fun a W ha hw => k.run a W ha hw
theorem SatW.perm {w0 : World} {D : Nat -> Prop} {J : (Nat -> Prop) -> World -> Prop} {mem mem' : List (Nat × Obj)} {W : World} (h : SatW w0 D J mem W) (hp : mem.Perm mem') : SatW w0 D J mem' W := by
 refine ⟨h.same, h.dom, (hp.map _).nodup_iff.1 h.nodup, fun p hm => h.own p (hp.mem_iff.2 hm), h.closed, ?_⟩
 have hk : keys mem' = keys mem := by
  funext b
  unfold keys
  exact propext ((hp.map _).mem_iff).symm
 rw [hk]; exact h.word
theorem x_perm {e : Exit} {mem' : List (Nat × Obj)} (hp : mem.Perm mem') (k : RunX N c Q e env mem') : RunX N c Q e env mem := .mk fun a W ha hm => k.run a W ha (hm.perm hp)
end
end Kin
end Go

namespace Go
open Go.RowKit
namespace Kin

/-! ## Rows of cells, written in part -/
def splice (cs : List Value) (f : Nat) (vs : List Value) : List Value := cs.take f ++ vs ++ cs.drop (f + vs.length)
/-! ## Blocks that are left out -/
def keepM {α : Type} (f : Nat -> Bool) : Nat -> List α -> List α
 | _, [] => []
 | k, x :: m => bif f k then keepM f (k + 1) m else x :: keepM f (k + 1) m
/-! ## What each operation waits for -/
def ancF (md : Region.Mode) (acc : List Nat) (o : Oper) : Nat := o.after.toList.foldl (fun m e => bif Region.binds md e then m ||| (2 ^ e.on) ||| acc.getD e.on 0 else m) 0
def ancL (md : Region.Mode) : List Oper -> List Nat -> List Nat
 | [], acc => acc
 | o :: l, acc => ancL md l (acc ++ [ancF md acc o])
def ancs (md : Region.Mode) (ops : Array Oper) : List Nat := ancL md ops.toList []

/-- what is listed waits for nothing that is not -/
def ClosedL (md : Region.Mode) (ops : Array Oper) (listed : Array Bool) : Prop :=
 ∀ j oj, ops[j]? = some oj -> listed.getD j false = true -> ∀ e ∈ oj.after, Region.binds md e = true -> listed.getD e.on false = true

def AncOk (md : Region.Mode) (ops : Array Oper) (acc : List Nat) : Prop :=
 ∀ (k m : Nat), acc[k]? = some m -> ∀ listed, ClosedL md ops listed -> (∀ o : Oper, ops[k]? = some o -> ∀ e ∈ o.after, Region.binds md e = true -> listed.getD e.on false = true) -> ∀ i, m.testBit i = true -> listed.getD i false = true

theorem ancF_ok {md : Region.Mode} {ops : Array Oper} {acc : List Nat} (h : AncOk md ops acc) {o : Oper} {listed : Array Bool} (hc : ClosedL md ops listed)
  (hd : ∀ e ∈ o.after, Region.binds md e = true -> listed.getD e.on false = true) {i : Nat} (hi : (ancF md acc o).testBit i = true) : listed.getD i false = true := by
 have : ∀ (es : List Edge) (m : Nat), (∀ e ∈ es, e ∈ o.after) -> (m.testBit i = true -> listed.getD i false = true) ->
   (es.foldl (fun m e => bif Region.binds md e then m ||| (2 ^ e.on) ||| acc.getD e.on 0 else m) m).testBit i = true -> listed.getD i false = true := by
  intro es
  induction es with
  | nil => intro m _ h1 h2; exact h1 h2
  | cons e es ih =>
   intro m hin h1 h2
   refine ih _ (fun e he => hin e (List.mem_cons_of_mem _ he)) ?_ h2
   intro h3
   replace h3 : (bif Region.binds md e then m ||| (2 ^ e.on) ||| acc.getD e.on 0 else m).testBit i = true := h3
   cases hb : Region.binds md e with
   | false => rw [hb] at h3; exact h1 h3
   | true =>
    rw [hb] at h3
    have hon := hd e (hin e List.mem_cons_self) hb
    simp only [cond_true, Nat.testBit_or, Bool.or_eq_true] at h3
    rcases h3 with (h3 | h3) | h3
    ·exact h1 h3
    ·rw [Nat.testBit_two_pow] at h3
     have : e.on = i := by simpa using h3
     rw [<- this]; exact hon
    ·rw [List.getD_eq_getElem?_getD] at h3
     cases hk : acc[e.on]? with
     | none => rw [hk] at h3; simp at h3
     | some mk =>
      rw [hk] at h3
      exact h e.on mk hk listed hc (fun o' ho' e' he' hb' => hc e.on o' ho' hon e' he' hb') i h3
 exact this o.after.toList 0 (fun e he => by simpa using he) (fun h => by simp at h) hi

theorem ancL_ok {md : Region.Mode} {ops : Array Oper} : ∀ (l : List Oper) (acc : List Nat), (∀ j, l[j]? = ops[acc.length + j]?) -> AncOk md ops acc -> AncOk md ops (ancL md l acc)
 | [], _, _, h => h
 | o :: l, acc, hl, h => by
  refine ancL_ok l (acc ++ [ancF md acc o]) (fun j => by have := hl (j + 1); simpa [Nat.add_assoc, Nat.add_comm 1 j] using this) ?_
  intro k m hk listed hc hd i hi
  by_cases hlt : k < acc.length
  ·rw [List.getElem?_append_left hlt] at hk
   exact h k m hk listed hc hd i hi
  ·rw [List.getElem?_append_right (by omega)] at hk
   have hka : k = acc.length := by
    have := (List.getElem?_eq_some_iff.1 hk).1
    simp only [List.length_singleton] at this; omega
   subst hka
   simp only [Nat.sub_self, List.getElem?_cons_zero, Option.some.injEq] at hk
   subst hk
   have h0 := hl 0
   simp only [List.getElem?_cons_zero, Nat.add_zero] at h0
   exact ancF_ok h hc (hd o h0.symm) hi

theorem ancs_ok {md : Region.Mode} {ops : Array Oper} : AncOk md ops (ancs md ops) := ancL_ok ops.toList [] (by simp) (fun k m hk => by cases hk)

def waitsB (an : List Nat) (j i : Nat) : Bool := (an.getD j 0).testBit i

/-- Of two that are both ready, neither waits for the other. -/
theorem ready_free {md : Region.Mode} {ops : Array Oper} {listed : Array Bool} (hc : ClosedL md ops listed) {i j : Nat} (hi : i ∈ Region.ready md ops listed) (hj : j ∈ Region.ready md ops listed) : waitsB (ancs md ops) j i = false := by
 obtain ⟨hiu, _⟩ := mem_ready.1 hi
 obtain ⟨_, oj, hoj, hall⟩ := mem_ready.1 hj
 cases hw : waitsB (ancs md ops) j i with
 | false => rfl
 | true =>
  unfold waitsB at hw
  rw [List.getD_eq_getElem?_getD] at hw
  cases hk : (ancs md ops)[j]? with
  | none => rw [hk] at hw; simp at hw
  | some m =>
   rw [hk] at hw
   have h1 := ancs_ok j m hk listed hc (fun o ho e he hb => by rw [hoj] at ho; cases ho; exact hall e he hb) i hw
   rw [getD_both hiu] at h1
   cases h1

theorem ClosedL.set {md : Region.Mode} {ops : Array Oper} {listed : Array Bool} (h : ClosedL md ops listed) {i : Nat} (hi : i ∈ Region.ready md ops listed) : ClosedL md ops (listed.setIfInBounds i true) := by
 obtain ⟨_, oi, hoi, hall⟩ := mem_ready.1 hi
 intro j oj hj hl e he hb
 by_cases hij : i = j
 ·subst hij
  have : oj = oi := Option.some.inj (hj.symm.trans hoi)
  subst this
  exact getD_set_true (hall e he hb)
 ·rw [getD_set_ne false hij] at hl
  exact getD_set_true (h j oj hj hl e he hb)

/-! ## The walk of operations on a list of blocks -/
abbrev Mem := List (Nat × Obj)
/-- the stores: number, place in the list of blocks, first cell, how many -/
abbrev Sts := List (Nat × Nat × Nat × Nat)
def posOf (st : Sts) (i : Nat) : Option (Nat × Nat × Nat) := (st.find? (fun s => s.1 == i)).map (·.2)
section
variable {P : Program} {ops : Array Oper} {C : Mem -> World -> Prop} {st : Sts} {wr : Nat -> Nat -> Bool} {Lq : Act -> Mem -> Prop}

inductive Eff (P : Program) (ops : Array Oper) (C : Mem -> World -> Prop) (st : Sts) (wr : Nat -> Nat -> Bool) (o : Oper) (i : Nat) (a : Act) (m : Mem) : Value -> Mem -> Prop
 | val {v : Value} (hw : Region.wanted o (yielded ops a.tmps) = true) (hp : plainOp o.op = true) (h : ∀ W, C (keepM (wr i) 0 m) W -> (execOp a.eval o).run P W = .ok (.value v) W) : Eff P ops C st wr o i a m v m
 | sto {p f b : Nat} {cs vs : List Value} {T : TypeId} (hw : Region.wanted o (yielded ops a.tmps) = true) (hp : plainOp o.op = true) (h1 : posOf st i = some (p, f, vs.length)) (h2 : m[p]? = some (b, .cells ⟨cs⟩ T (0, 0))) (h3 : f + vs.length <= cs.length)
   (h : ∀ (W : World) (cs' : List Value), cs'.length = cs.length -> W.heap[b]? = some (.cells ⟨cs'⟩ T (0, 0)) -> (execOp a.eval o).run P W = .ok .skip (W.setRow b (splice cs' f vs).toArray)) :
   Eff P ops C st wr o i a m undef (m.set p (b, .cells ⟨splice cs f vs⟩ T (0, 0)))
 | skip (hw : Region.wanted o (yielded ops a.tmps) = false) : Eff P ops C st wr o i a m undef m

end

section
variable {P : Program} {N : Nat} {c : Cx} {Q : Exit -> Act -> World -> Prop} {env : List (Nat × Value)} {mem : List (Nat × Obj)} {L l : List Oper} [Wide c.F]
 {tt : List (TypeId × TI)} {d : Nat} {ty : TypeId} {pos : String} {af : Array Edge} {g : Option (Nat × Bool)} {st : Sts} {wr : Nat -> Nat -> Bool}

variable {rd : List (Nat × Nat)}
theorem splice_one {cs : List Value} {o : Nat} {v : Value} {cs2 : List Value} (h : o < cs.length) (e : cs.set o v = cs2) : splice cs o [v] = cs2 := by
 rw [<- e]; exact set_eq_splice h
theorem splice_lit {cs vs cs2 : List Value} {o : Nat} (h : putK cs o vs some = some cs2) : splice cs o vs = cs2 := by
 have := (putK_eq h).2
 simpa [splice] using this
end
end Kin
end Go

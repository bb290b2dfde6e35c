/- Sorting numbers: what lies in order; comparing. -/
import Derived.Test.YtdegengehbdelaaGreatDoorSeM
import Derived.Test.YtdegengehbdelaaGreatDoorEng48
set_option linter.unusedSectionVars false
set_option linter.unusedVariables false
set_option linter.unusedSimpArgs false
namespace Go.Proofs
open Go.RowKit Go.Kin Go.Kin.Se Go.Kin.Cl
namespace R41
theorem isNaN77_calls (x : Int) (w : World) : Calls Tryz.prog 77 ⟨[.int .i64 x]⟩ w fun e w' => e = .returned (.bool false) /\ Below w.heap.size w w' := by
 refine fEn Tryz.func77 rfl Tryz.ntmps77 rfl rfl (sWn w) ?_
 repeat (first|refine lVa rfl rfl (by first|exact pEv rfl|fail) ?_|refine lNi ?_|refine cRg ?_|refine cSq ?_|refine xTh ?_|refine c_ret ?_|fail)
 exact x_ret rfl rfl (by repeat constructor) rfl (fun W hW => ⟨by simp, hW.below⟩)
theorem less100_calls (x y : Int) (w : World) : Calls Tryz.prog 100 ⟨[.int .i64 x, .int .i64 y]⟩ w fun e w' => e = .returned (.bool (decide (x < y))) /\ Below w.heap.size w w' := by
 refine fEn Tryz.func100 rfl Tryz.ntmps100 rfl rfl (sWn w) ?_
 repeat (first|refine lVa rfl rfl (by first|exact pEv rfl|fail) ?_|refine lNi ?_|refine cRg ?_|refine cSq ?_|refine xTh ?_|fail)
 refine r_call rfl rfl rfl (fun W _ => isNaN77_calls x W) ?_
 repeat (first|refine lVa rfl rfl (by first|exact pEv rfl|fail) ?_|refine lNi ?_|refine xTh ?_|refine l_skip rfl rfl ?_|refine c_ret ?_|fail)
 exact x_ret rfl rfl (by repeat constructor) rfl (fun W hW => ⟨rfl, hW.below⟩)
/-! ## Insertion -/
def incr : List Nat -> Prop
 | [] => True
 | x :: l => (∀ y ∈ l, x <= y) /\ incr l
theorem ins_mem {x y : Nat} : ∀ {l : List Nat}, y ∈ ins x l ↔ y = x ∨ y ∈ l
 | [] => by simp [ins]
 | z :: l => by
  rw [ins]
  split
  ·simp
  ·rw [List.mem_cons, ins_mem, List.mem_cons]
   constructor
   ·rintro (h | h | h)
    ·exact .inr (.inl h)
    ·exact .inl h
    ·exact .inr (.inr h)
   ·rintro (h | h | h)
    ·exact .inr (.inl h)
    ·exact .inl h
    ·exact .inr (.inr h)
theorem ins_len {x : Nat} : ∀ {l : List Nat}, (ins x l).length = l.length + 1
 | [] => rfl
 | z :: l => by
  rw [ins]
  split
  ·rfl
  ·rw [List.length_cons, ins_len, List.length_cons]
theorem ins_incr {x : Nat} : ∀ {l : List Nat}, incr l -> incr (ins x l)
 | [], _ => ⟨fun _ h => (by cases h), trivial⟩
 | z :: l, h => by
  rw [ins]
  split
  ·rename_i hx
   refine ⟨fun y hy => ?_, h⟩
   rcases List.mem_cons.1 hy with e | hy
   ·omega
   ·have := h.1 y hy; omega
  ·rename_i hx
   refine ⟨fun y hy => ?_, ins_incr h.2⟩
   rcases ins_mem.1 hy with e | hy
   ·omega
   ·exact h.1 y hy
theorem ins_at {x : Nat} : ∀ {l r : List Nat}, incr (l ++ r) -> (∀ y ∈ l, y <= x) -> (∀ y ∈ r, x < y) -> ins x (l ++ r) = l ++ x :: r
 | [], r, h, _, hr => by
  cases r with
  | nil => rfl
  | cons z r =>
   have := hr z List.mem_cons_self
   show (if x <= z then _ else _) = _
   rw [if_pos (by omega)]; rfl
 | z :: l, r, h, hl, hr => by
  have hz := hl z List.mem_cons_self
  have ih := ins_at (x := x) h.2 (fun y hy => hl y (List.mem_cons_of_mem _ hy)) hr
  show (if x <= z then _ else _) = _
  by_cases hx : x <= z
  ·rw [if_pos hx]
   have e : x = z := by omega
   subst e
   show x :: x :: (l ++ r) = x :: (l ++ x :: r)
   congr 1
   rw [<- ih]
   cases hlr : l ++ r with
   | nil => rfl
   | cons u t =>
    have hu : x <= u := h.1 u (by show u ∈ l ++ r; rw [hlr]; exact List.mem_cons_self)
    show _ = (if x <= u then _ else _)
    rw [if_pos hu]
  ·rw [if_neg hx]
   show z :: ins x (l ++ r) = z :: (l ++ x :: r)
   rw [ih]
theorem isrt_snoc (l : List Nat) (x : Nat) : isrt (l ++ [x]) = ins x (isrt l) := by unfold isrt; rw [List.foldl_append]; rfl
theorem isrt_fold : ∀ (l p : List Nat), incr p -> incr (l.foldl (fun p x => ins x p) p) /\ (l.foldl (fun p x => ins x p) p).length = p.length + l.length
 | [], p, h => ⟨h, rfl⟩
 | x :: l, p, h => by
  obtain ⟨h1, h2⟩ := isrt_fold l (ins x p) (ins_incr h)
  exact ⟨h1, by rw [List.foldl_cons, h2, ins_len, List.length_cons]; omega⟩
theorem isrt_incr (l : List Nat) : incr (isrt l) := (isrt_fold l [] trivial).1
theorem isrt_len (l : List Nat) : (isrt l).length = l.length := by have := (isrt_fold l [] trivial).2; simpa [isrt] using this
end R41
end Go.Proofs

namespace Go
open Go.RowKit
namespace Kin
section
variable {P : Program} {N : Nat} {c : Cx} {Q : Exit -> Act -> World -> Prop} {env : List (Nat × Value)} {mem mem' : List (Nat × Obj)} {L l : List Oper} {tt : List (TypeId × TI)}
 {ty : TypeId} {pos : String} {af : Array Edge} {g : Option (Nat × Bool)} {dd : Option Tmp}
theorem satW_frameJ {w0 W W' : World} {D : Nat -> Prop} {J : (Nat -> Prop) -> World -> Prop} {pre post : List (Nat × Obj)} (h : SatW w0 D J (pre ++ mem) W) (k : SatW W (allBut W (pre.map (·.1))) noJ post W') : SatW w0 D J (post ++ mem) W' := by
 have h0 : SatW w0 D noJ (pre ++ mem) W := ⟨h.same, h.dom, h.nodup, h.own, closed_noJ, trivial⟩
 have h1 := satW_frame h0 k
 refine ⟨h1.same, h1.dom, h1.nodup, h1.own, h.closed, h.closed _ _ _ _ h.word (k.same.monoLt fun b hb hn => ⟨hb, fun hm => hn ?_⟩) fun b hb => ?_⟩
 ·unfold keys
  rw [List.map_append]
  exact List.mem_append_left _ hm
 ·unfold keys at hb ⊢
  rw [List.map_append, List.mem_append] at hb
  rw [List.map_append, List.mem_append]
  rcases hb with hb | hb
  ·obtain ⟨p, hp, rfl⟩ := List.mem_map.1 hb
   by_cases hm : p.1 ∈ pre.map (·.1)
   ·exact .inl (.inl hm)
   ·exact .inr (Nat.le_of_not_lt fun hlt => (k.own p hp).1 ⟨hlt, hm⟩)
  ·exact .inl (.inr hb)
theorem r_callFJ [Wide c.F] {d : Nat} {f : FuncId} [Ent P f] {args : List Operand} {ats : Array TypeId} {vs : List Value} {ι : Type} {v : ι -> Value} {pre mem0 : List (Nat × Obj)} {post : ι -> List (Nat × Obj)}
  (hw : wantB L env g = some true) (hd : Nat.blt d N = true) (ha : evOps env args some = some vs) (hp : mem.Perm (pre ++ mem0))
  (hc : ∀ W, SatW c.w0 c.D c.J mem W -> (pre.map (·.1)).Nodup -> (∀ p ∈ pre, W.heap[p.1]? = some p.2) -> Calls P f ⟨vs⟩ W (FrQ pre v post W))
  (k : ∀ i, RunL P N c L l Q ((d, v i) :: env) (post i ++ mem0)) : RunL P N c L (⟨some d, .call ⟨.value (.func f), ⟨args⟩, ats⟩, ty, pos, af, g⟩ :: l) Q env mem :=
 l_call (ι := ι) (v := v) (mem' := fun i => post i ++ mem0) hw hd ha (fun W hm => (hc W hm (hm.pre hp).1 (hm.pre hp).2).mono fun _ _ ⟨i, h1, h2⟩ => ⟨i, h1, satW_frameJ (hm.perm hp) h2⟩) k
end
end Kin
end Go

set_option maxRecDepth 100000
set_option maxHeartbeats 400000000
namespace Go.Proofs
open Go.RowKit Go.Kin Go.Kin.Se Go.Kin.Cl
namespace R41
def flN (l : List Nat) : List Value := l.map fun x : Nat => Value.int .i64 (x : Int)
theorem flN_eq (l : List Nat) : (l.map nE).flatten = flN l := by
 induction l with
 | nil => rfl
 | cons x l ih => rw [List.map_cons, List.flatten_cons, ih]; rfl
theorem flN_len (l : List Nat) : (flN l).length = l.length := List.length_map ..
theorem flN_get {l : List Nat} {i x : Nat} (h : l[i]? = some x) (rest : List Value) : (flN l ++ rest)[i]? = some (.int .i64 (x : Int)) := by
 have hl := (List.getElem?_eq_some_iff.1 h).1
 rw [List.getElem?_append_left (by rw [flN_len]; exact hl)]
 unfold flN
 rw [List.getElem?_map, h]; rfl
theorem flN_set {l : List Nat} {i x : Nat} (h : i < l.length) (rest : List Value) : (flN l ++ rest).set i (.int .i64 (x : Int)) = flN (l.set i x) ++ rest := by
 rw [List.set_append_left _ _ (by rw [flN_len]; exact h)]
 congr 1
 unfold flN
 rw [List.map_set]
/-- a list while x is on its way -/
def curL (p : List Nat) (x : Nat) (j : Nat) (tl : List Nat) : List Nat := p.take j ++ x :: (p.drop j ++ tl)
theorem curL_len {p : List Nat} {x j : Nat} {tl : List Nat} (h : j <= p.length) : (curL p x j tl).length = p.length + 1 + tl.length := by
 unfold curL
 rw [List.length_append, List.length_cons, List.length_append, List.length_take, List.length_drop]; omega
theorem curL_at {p : List Nat} {x j : Nat} {tl : List Nat} (h : j <= p.length) : (curL p x j tl)[j]? = some x := by
 unfold curL
 rw [List.getElem?_append_right (by rw [List.length_take]; omega), List.length_take, Nat.min_eq_left h, Nat.sub_self]; rfl
theorem curL_before {p : List Nat} {x j y : Nat} {tl : List Nat} (hy : p[j]? = some y) : (curL p x (j + 1) tl)[j]? = some y := by
 have hl := (List.getElem?_eq_some_iff.1 hy).1
 unfold curL
 rw [List.getElem?_append_left (by rw [List.length_take]; omega), List.getElem?_take_of_lt (by omega), hy]
theorem curL_swap {p : List Nat} {x j y : Nat} {tl : List Nat} (hy : p[j]? = some y) : ((curL p x (j + 1) tl).set (j + 1) y).set j x = curL p x j tl := by
 have hl := (List.getElem?_eq_some_iff.1 hy).1
 unfold curL
 have h1 : p.take (j + 1) = p.take j ++ [y] := by rw [List.take_add_one, hy]; rfl
 have h2 : p.drop j = y :: p.drop (j + 1) := drop_getA hy
 have h3 : (p.take j).length = j := by rw [List.length_take]; omega
 rw [h1, h2, List.append_assoc, List.set_append_right _ _ (by omega), h3, show j + 1 - j = 1 by omega, List.set_append_right _ _ (by omega), h3, Nat.sub_self]
 rfl
theorem incr_last : ∀ {p : List Nat} {j y : Nat}, incr p -> p[j]? = some y -> ∀ z ∈ p.take (j + 1), z <= y
 | x :: p, 0, y, _, h, z, hz => by
  cases h
  simp at hz
  omega
 | x :: p, j + 1, y, h, hy, z, hz => by
  have hy : p[j]? = some y := hy
  rw [List.take_succ_cons] at hz
  rcases List.mem_cons.1 hz with rfl | hz
  ·exact h.1 y (List.mem_of_getElem? hy)
  ·exact incr_last h.2 hy z hz
theorem isort94_calls (l : List Nat) (b cap : Nat) (rest : List Value) (w : World) (hl : l.length <= 1000) (h1 : 1 <= l.length) (hb : w.heap[b]? = some (.cells ⟨flN l ++ rest⟩ 3 (0, 0))) :
  Calls Tryz.prog 94 ⟨[.slice (some ⟨b, 0, none⟩) l.length cap, .int .i64 0, .int .i64 l.length]⟩ w (FrQ [(b, .cells ⟨flN l ++ rest⟩ 3 (0, 0))] (fun _ : Unit => .tuple #[]) (fun _ => [(b, .cells ⟨flN (isrt l) ++ rest⟩ 3 (0, 0))]) w) := by
 have hsat := frQ_start (W := w) (pre := [(b, .cells ⟨flN l ++ rest⟩ 3 (0, 0))]) (by simp) fun p hp => by rw [List.mem_singleton.1 hp]; exact hb
 obtain ⟨n, hn⟩ : ∃ n, l.length = n := ⟨_, rfl⟩
 rw [hn] at hl h1 ⊢
 refine fEn Tryz.func94 rfl Tryz.ntmps94 rfl rfl hsat ?_
 repeat (first|refine lVa rfl rfl (by first|exact v_add rfl rfl (by omega) (by omega)|exact pEv rfl|fail) ?_|refine lNi ?_|refine cRg ?_|refine cSq ?_|refine xTh ?_|refine cBl ?_|fail)
 refine c_loop (ι := Nat) (fun i => 1 <= i /\ i <= n) (fun i => [(0, .slice (some ⟨b, 0, none⟩) n cap), (1, .int .i64 0), (2, .int .i64 n), (6, .int .i64 i)]) (fun i => [(b, .cells ⟨flN (isrt (l.take i) ++ l.drop i) ++ rest⟩ 3 (0, 0))]) (fun i => n - i) 1 ⟨Nat.le_refl _, h1⟩ (by repeat (first|exact .nil|refine .cons rfl (by first|rfl|(congr 1; done)|exact congrArg _ (by omega)|(simp; done)) ?_)) ?_ ?_
 ·have e : isrt (l.take 1) ++ l.drop 1 = l := by
   cases l with
   | nil => simp at hn; omega
   | cons x l => rfl
  rw [e]
  exact (by repeat (first|exact .nil|refine .keep (by first|rfl|assumption) ?_|refine .drop ?_|exact MSub.refl _))
 rintro i ⟨hi1, hi2⟩
 by_cases hlt : i < n
 rotate_left
 ·have hin : i = n := by omega
  subst hin
  rw [<- hn, List.take_length, List.drop_length, List.append_nil]
  rw [hn]
  repeat (first|refine lVa rfl rfl (by first|exact pEv rfl|fail) ?_|refine lNi ?_|refine cRg ?_|refine cSq ?_|refine xTh ?_|refine c_dec_f rfl (by first|omega|fail) ?_|refine c_exit ?_|refine xTe ?_|refine xBs ?_|fail)
  exact x_end rfl rfl Res.nil rfl (fun W hW => ⟨(), rfl, hW⟩)
 obtain ⟨x, hx⟩ : ∃ x, l[i]? = some x := ⟨_, List.getElem?_eq_getElem (by omega)⟩
 obtain ⟨p, hp⟩ : ∃ p, isrt (l.take i) = p := ⟨_, rfl⟩
 have hpl : p.length = i := by rw [<- hp, isrt_len, List.length_take]; omega
 have hpi : incr p := by rw [<- hp]; exact isrt_incr _
 have htk : isrt (l.take (i + 1)) = ins x p := by rw [List.take_add_one, hx]; show isrt (l.take i ++ [x]) = _; rw [isrt_snoc, hp]
 obtain ⟨tl, htl⟩ : ∃ tl, l.drop (i + 1) = tl := ⟨_, rfl⟩
 have hdr : l.drop i = x :: tl := by rw [drop_getA hx, htl]
 have htll : tl.length = n - (i + 1) := by rw [<- htl, List.length_drop, hn]
 rw [hp, hdr]
 repeat (first|refine lVa rfl rfl (by first|exact pEv rfl|fail) ?_|refine lNi ?_|refine cRg ?_|refine cSq ?_|refine xTh ?_|refine c_dec_t rfl (by first|omega|fail) ?_|refine cBl ?_|refine cSk ?_|fail)
 refine c_loop (ι := Nat) (fun j => j <= i /\ ∀ y ∈ p.drop j, x < y) (fun j => [(0, .slice (some ⟨b, 0, none⟩) n cap), (1, .int .i64 0), (2, .int .i64 n), (6, .int .i64 i), (7, .int .i64 j)]) (fun j => [(b, .cells ⟨flN (curL p x j tl) ++ rest⟩ 3 (0, 0))]) (fun j => j) i ⟨Nat.le_refl _, fun y hy => by rw [<- hpl, List.drop_length] at hy; cases hy⟩ (by repeat (first|exact .nil|refine .cons rfl (by first|rfl|(congr 1; done)|exact congrArg _ (by omega)|(simp; done)) ?_)) ?_ ?_
 ·have e : curL p x i tl = p ++ x :: tl := by unfold curL; rw [<- hpl, List.take_length, List.drop_length]; rfl
  rw [e]
  exact (by repeat (first|exact .nil|refine .keep (by first|rfl|assumption) ?_|refine .drop ?_|exact MSub.refl _))
 rintro j ⟨hj1, hj2⟩
 have hcl := curL_len (p := p) (x := x) (j := j) (tl := tl) (by omega)
 have hca := curL_at (p := p) (x := x) (j := j) (tl := tl) (by omega)
 have hfin : (∀ y ∈ p.take j, y <= x) -> flN (curL p x j tl) = flN (isrt (l.take (i + 1)) ++ l.drop (i + 1)) := fun h => by
  have := ins_at (x := x) (l := p.take j) (r := p.drop j) (by rw [List.take_append_drop]; exact hpi) h hj2
  rw [List.take_append_drop] at this
  rw [htk, htl, this]
  unfold curL
  simp
 have g1 := flN_get hca rest
 by_cases hj0 : j = 0
 ·subst hj0
  have hf := hfin fun y hy => by cases hy
  repeat (first|refine lVa rfl rfl (by first|exact v_add rfl rfl (by omega) (by omega)|exact pEv rfl|fail) ?_|refine lNi ?_|refine cRg ?_|refine cSq ?_|refine xTh ?_|refine c_false rfl ?_|refine c_exit ?_|refine xTe ?_|refine x_block ?_|refine xBs ?_|refine c_reads rfl (by decide +kernel) ?_|refine q_val rfl rfl (by first|exact pEv rfl|fail) ?_|refine q_nil ?_|refine q_skip rfl rfl ?_|fail)
  rw [hf]
  exact x_back (i + 1) ⟨by omega, hlt⟩ (by omega) (by repeat (first|exact .nil|refine .cons rfl (by first|rfl|(congr 1; done)|exact congrArg _ (by omega)|(simp; done)) ?_)) (by repeat (first|exact .nil|refine .keep (by first|rfl|assumption) ?_|refine .drop ?_|exact MSub.refl _))
 obtain ⟨j, rfl⟩ : ∃ k, j = k + 1 := ⟨j - 1, by omega⟩
 obtain ⟨y, hy⟩ : ∃ y, p[j]? = some y := ⟨_, List.getElem?_eq_getElem (by omega)⟩
 have g2 := flN_get (curL_before (x := x) (tl := tl) hy) rest
 have hsw := curL_swap (x := x) (tl := tl) hy
 have hyx : y ∈ p.take (j + 1) := by rw [List.take_add_one, hy]; simp
 have g2 : (flN (curL p x (j + 1) tl) ++ rest)[((((j + 1 : Nat) : Int)) - 1).toNat]? = some (.int .i64 (y : Int)) := by
  rw [show (((j + 1 : Nat) : Int) - 1).toNat = j by omega]; exact g2
 have hlen : (flN (curL p x (j + 1) tl) ++ rest).length = (curL p x (j + 1) tl).length + rest.length := by rw [List.length_append, flN_len]
 have s1 := flN_set (l := curL p x (j + 1) tl) (i := j + 1) (x := y) (by omega) rest
 have s2 := flN_set (l := (curL p x (j + 1) tl).set (j + 1) y) (i := j) (x := x) (by rw [List.length_set]; omega) rest
 rw [hsw] at s2
 have s2 : (flN ((curL p x (j + 1) tl).set (j + 1) y) ++ rest).set (((((j + 1 : Nat) : Int)) - 1).toNat) (.int .i64 (x : Int)) = flN (curL p x j tl) ++ rest := by
  rw [show (((j + 1 : Nat) : Int) - 1).toNat = j by omega]; exact s2
 have hlen1 : (flN ((curL p x (j + 1) tl).set (j + 1) y) ++ rest).length = (curL p x (j + 1) tl).length + rest.length := by rw [List.length_append, flN_len, List.length_set]
 have hcl : (curL p x (j + 1) tl).length = i + 1 + tl.length := by omega
 obtain ⟨cs, hcs⟩ : ∃ cs, flN (curL p x (j + 1) tl) ++ rest = cs := ⟨_, rfl⟩
 obtain ⟨cs1, hcs1⟩ : ∃ cs, flN ((curL p x (j + 1) tl).set (j + 1) y) ++ rest = cs := ⟨_, rfl⟩
 rw [hcs] at g1 g2 hlen s1 ⊢
 rw [hcs1] at s1 s2 hlen1
 obtain ⟨cs2, hcs2⟩ : ∃ cs, flN (curL p x j tl) ++ rest = cs := ⟨_, rfl⟩
 rw [hcs2] at s2
 have hlc : j + 1 < cs.length := by omega
 have hlc1 : j + 1 < cs1.length := by omega
 clear hlen hlen1 hcl htll
 by_cases hxy : x < y
 ·have hd : decide ((x : Int) < (y : Int)) = true := decide_eq_true (by omega)
  have hj3 : j <= i /\ ∀ z ∈ p.drop j, x < z := ⟨by omega, fun z hz => by
   rw [drop_getA hy] at hz
   rcases List.mem_cons.1 hz with rfl | hz
   ·exact hxy
   ·exact hj2 z hz⟩
  clear hfin hj2
  have lc : ∀ W, Calls Tryz.prog 100 ⟨[.int .i64 (x : Int), .int .i64 (y : Int)]⟩ W fun e w' => e = .returned (.bool true) /\ Below W.heap.size W w' := fun W => by have := less100_calls (x : Int) (y : Int) W; rwa [hd] at this
  repeat ((fail_if_success refine c_probe (id := 6) ?_); (fail_if_success refine c_probe1 (id := 6) ?_); first|refine q_call rfl rfl rfl (fun W _ => lc W) ?_|refine cSq ?_|refine xTh ?_|refine c_true rfl ?_|refine cBl ?_|refine cSk ?_|refine c_reads rfl (by decide +kernel) ?_|refine q_val rfl rfl (by first|exact v_sub rfl rfl (by omega) (by omega)|exact pEv rfl|exact v_index rfl rfl rfl rfl (by omega) (by omega) (by with_reducible first|exact idx1 _|exact idx5 _|fail)|exact v_load_at rfl (by repeat constructor) rfl rfl (by first|assumption|fail)|fail) ?_|refine q_nil ?_|refine q_dec_t rfl rfl rfl rfl (by first|omega|fail) ?_|fail)
  refine c_new 1 0 [(15, .sto 0 (j + 1) 1), (17, .sto 0 j 1)] [(15,[0]),(17,[0])] [(9,0),(13,0)] rfl (by decide +kernel) rfl ?_; repeat (first|refine e_store rfl rfl rfl rfl rfl rfl rfl rfl (by first|rfl|omega) rfl rfl (by omega) (splice_one (by omega) (by assumption)) ?_|refine lVa rfl rfl (by first|exact v_sub rfl rfl (by omega) (by omega)|exact pEv rfl|fail) ?_|refine lNi ?_|refine cRg ?_|refine xTh ?_|refine x_block ?_|refine e_val rfl rfl rfl rfl (by first|exact v_sub rfl rfl (by omega) (by omega)|exact pEv rfl|exact v_index rfl rfl rfl rfl (by omega) (by omega) (by with_reducible first|exact idx1 _|exact idx5 _|fail)|exact v_load_at rfl (by repeat constructor) rfl rfl (by first|assumption|fail)|fail) ?_|refine e_nil rfl ?_|fail)
  rw [<- hcs2]
  exact x_back j hj3 (by omega) (by repeat (first|exact .nil|refine .cons rfl (by first|rfl|(congr 1; done)|exact congrArg _ (by omega)|(simp; done)) ?_)) (by repeat (first|exact .nil|refine .keep (by first|rfl|assumption) ?_|refine .drop ?_|exact MSub.refl _))
 ·have hd : decide ((x : Int) < (y : Int)) = false := decide_eq_false (by omega)
  have hf := hfin fun z hz => by
   have h1 : incr (p.take (j + 1) ++ p.drop (j + 1)) := by rw [List.take_append_drop]; exact hpi
   have : z <= y := incr_last hpi hy z hz
   omega
  rw [hf] at hcs
  clear hfin hj2
  have lc : ∀ W, Calls Tryz.prog 100 ⟨[.int .i64 (x : Int), .int .i64 (y : Int)]⟩ W fun e w' => e = .returned (.bool false) /\ Below W.heap.size W w' := fun W => by have := less100_calls (x : Int) (y : Int) W; rwa [hd] at this
  repeat (first|refine q_call rfl rfl rfl (fun W _ => lc W) ?_|refine lVa rfl rfl (by first|exact v_add rfl rfl (by omega) (by omega)|exact pEv rfl|fail) ?_|refine lNi ?_|refine cRg ?_|refine cSq ?_|refine xTh ?_|refine c_false rfl ?_|refine c_exit ?_|refine xTe ?_|refine x_block ?_|refine xBs ?_|refine c_reads rfl (by decide +kernel) ?_|refine q_val rfl rfl (by first|exact v_sub rfl rfl (by omega) (by omega)|exact pEv rfl|exact v_index rfl rfl rfl rfl (by omega) (by omega) (by with_reducible first|exact idx1 _|exact idx5 _|fail)|exact v_load_at rfl (by repeat constructor) rfl rfl (by first|assumption|fail)|fail) ?_|refine q_nil ?_|refine q_dec_t rfl rfl rfl rfl (by first|omega|fail) ?_|fail)
  rw [<- hcs]
  exact x_back (i + 1) ⟨by omega, hlt⟩ (by omega) (by repeat (first|exact .nil|refine .cons rfl (by first|rfl|(congr 1; done)|exact congrArg _ (by omega)|(simp; done)) ?_)) (by repeat (first|exact .nil|refine .keep (by first|rfl|assumption) ?_|refine .drop ?_|exact MSub.refl _))
end R41
end Go.Proofs

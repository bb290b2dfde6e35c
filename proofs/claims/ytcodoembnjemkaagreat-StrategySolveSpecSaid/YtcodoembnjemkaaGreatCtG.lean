/- The tree of called links, as it lies: 384 cells. -/
import Derived.Test.YtcodoembnjemkaaGreatSgChk
set_option linter.unusedSectionVars false
set_option linter.unusedVariables false
set_option linter.unusedSimpArgs false
namespace Go.Kin
open Go.RowKit
section
variable {P : Program} {N : Nat} {c : Cx} {Q : Exit -> Act -> World -> Prop} {env : List (Nat × Value)} {mem : List (Nat × Obj)} {L l : List Oper} {tt : List (TypeId × TI)} {ty : TypeId} {pos : String} {af : Array Edge} {g : Option (Nat × Bool)} {dd : Option Tmp} {t t' : TypeId} {x y : Operand}
/-- a block, whole -/
theorem v_loadW [Wide c.F] [T : TT P tt] {b sz bt : Nat} {kd : TK} {z : Value} {cs : List Value} {T' : TypeId} {fr : Nat × Nat}
  (hx : evOp env x = some (.pointer (some ⟨b, 0, none⟩))) (hm : (b, Obj.cells ⟨cs⟩ T' fr) ∈ mem) (ht : look tt t = some ⟨kd, sz, bt, z⟩) (hk : kd.isAgg = true) (hs : cs.length = sz) :
  OpVal P N c env mem ⟨dd, .load t x, ty, pos, af, g⟩ (.agg ⟨cs⟩) :=
 v_load_row (r := cs) hx hm ht hk ⟨by omega, by simp⟩ (by rw [hs]; exact Nat.beq_refl _)
theorem putK_all {β : Type} : ∀ {cs vs : List Value} {k : List Value -> Option β}, cs.length = vs.length -> putK cs 0 vs k = k vs
 | [], [], k, _ => rfl
 | _ :: cs, v :: vs, k, h => putK_all (cs := cs) (vs := vs) (k := fun r => k (v :: r)) (by simpa using h)
theorem v_remN [Wide c.F] {m n : Nat} (hx : evOp env x = some (.int .i64 m)) (hy : evOp env y = some (.int .i64 n)) (h1 : 0 < n) : OpVal P N c env mem ⟨dd, .binOp .rem t x y t', ty, pos, af, g⟩ (.int .i64 ((m % n : Nat) : Int)) := by
 rw [Int.natCast_emod]
 exact v_rem hx hy (by omega) (by omega)
theorem v_quoN [Wide c.F] {m n : Nat} (hx : evOp env x = some (.int .i64 m)) (hy : evOp env y = some (.int .i64 n)) (h1 : 0 < n) (h2 : m <= 9223372036854775807) : OpVal P N c env mem ⟨dd, .binOp .quo t x y t', ty, pos, af, g⟩ (.int .i64 ((m / n : Nat) : Int)) := by
 rw [Int.natCast_ediv]
 exact v_quo hx hy (by omega) (by omega) (by omega)
end
end Go.Kin
namespace Go.Proofs
open Go.RowKit Go.Kin Go.Kin.St Go.Kin.Ct
open R22
namespace R23
def treeC (f g : Nat -> Int) (h : Nat -> Nat) (k : Nat) : Value := if k < 64 then .int .i64 (f k) else if k < 128 then .int .i64 (g (k - 64)) else .int .u64 (h (k - 128) : Nat)
def treeL (f g : Nat -> Int) (h : Nat -> Nat) : List Value := vec 384 (treeC f g h)
theorem treeL_len {f g : Nat -> Int} {h : Nat -> Nat} : (treeL f g h).length = 384 := vec_length _ _
theorem treeL_beq {f g : Nat -> Int} {h : Nat -> Nat} : Nat.beq (treeL f g h).length 384 = true := by rw [treeL_len]; rfl
theorem allOne_of {l : List Value} (h : ∀ v ∈ l, v.oneCell' = true) : allOne l = true := by
 induction l with
 | nil => rfl
 | cons v l ih =>
  have h1 := h v List.mem_cons_self
  have h2 := ih fun u hu => h u (List.mem_cons_of_mem _ hu)
  cases v <;> first|exact h2|(cases h1)
theorem treeL_one {f g : Nat -> Int} {h : Nat -> Nat} : allOne (treeL f g h) = true := allOne_of fun v hv => by
 obtain ⟨k, _, rfl⟩ := List.mem_map.1 hv
 unfold treeC
 split
 ·rfl
 ·split <;> rfl
theorem treeL_f {f g : Nat -> Int} {h : Nat -> Nat} {p : Nat} (hp : p < 64) : (treeL f g h)[p]? = some (.int .i64 (f p)) := by
 unfold treeL
 rw [vec_get (by omega)]
 unfold treeC
 rw [if_pos hp]
theorem treeL_h {f g : Nat -> Int} {h : Nat -> Nat} {p q : Nat} (hp : p < 64) (hq : q < 4) : (treeL f g h)[128 + p * 4 + q]? = some (.int .u64 (h (p * 4 + q) : Nat)) := by
 unfold treeL
 rw [vec_get (by omega)]
 unfold treeC
 rw [if_neg (by omega), if_neg (by omega), show 128 + p * 4 + q - 128 = p * 4 + q by omega]
def nset (h : Nat -> Nat) (q v : Nat) : Nat -> Nat := fun j => if j = q then v else h j
theorem treeL_sf {f g : Nat -> Int} {h : Nat -> Nat} {p : Nat} {v : Int} (hp : p < 64) : (treeL f g h).set p (.int .i64 v) = treeL (iset f p v) g h := by
 unfold treeL
 rw [vec_set]
 congr 1
 funext j
 unfold treeC iset
 by_cases e : j = p
 ·rw [if_pos e, if_pos (by omega), if_pos e]
 ·rw [if_neg e, if_neg e]
theorem treeL_sg {f g : Nat -> Int} {h : Nat -> Nat} {p : Nat} {v : Int} (hp : p < 64) : (treeL f g h).set (64 + p) (.int .i64 v) = treeL f (iset g p v) h := by
 unfold treeL
 rw [vec_set]
 congr 1
 funext j
 unfold treeC iset
 by_cases e : j = 64 + p
 ·rw [if_pos e, if_neg (by omega), if_pos (by omega), if_pos (by omega)]
 ·rw [if_neg e]
  by_cases e1 : j < 64
  ·rw [if_pos e1, if_pos e1]
  ·rw [if_neg e1, if_neg e1]
   by_cases e2 : j < 128
   ·rw [if_pos e2, if_pos e2, if_neg (by omega)]
   ·rw [if_neg e2, if_neg e2]
theorem treeL_sh {f g : Nat -> Int} {h : Nat -> Nat} {p q v : Nat} (hp : p < 64) (hq : q < 4) : (treeL f g h).set (128 + p * 4 + q) (.int .u64 (v : Nat)) = treeL f g (nset h (p * 4 + q) v) := by
 unfold treeL
 rw [vec_set]
 congr 1
 funext j
 unfold treeC nset
 by_cases e : j = 128 + p * 4 + q
 ·rw [if_pos e, if_neg (by omega), if_neg (by omega), if_pos (by omega)]
 ·rw [if_neg e]
  by_cases e1 : j < 64
  ·rw [if_pos e1, if_pos e1]
  ·rw [if_neg e1, if_neg e1]
   by_cases e2 : j < 128
   ·rw [if_pos e2, if_pos e2]
   ·rw [if_neg e2, if_neg e2, if_neg (by omega)]
/-! ## The first part: links by their ends -/
def fI (C : List Lk) (k : Nat) (p : Nat) : Int := match into (C.take k) p with | some i => (i : Int) + 1 | none => 0
theorem fI_0 {C : List Lk} : fI C 0 = fun _ => 0 := by funext p; unfold fI; rw [List.take_zero]; rfl
theorem into_snoc {C : List Lk} {x : Lk} {p : Int} : into (C ++ [x]) p = match into C p with | some i => some i | none => if x.to = p then some C.length else none := by
 induction C with
 | nil => simp only [List.nil_append, into]; split <;> rfl
 | cons y C ih =>
  simp only [List.cons_append, into]
  by_cases e : y.to = p
  ·rw [if_pos e, if_pos e]
  ·rw [if_neg e, if_neg e, ih]
   cases h : into C p with
   | some i => rfl
   | none =>
    simp only [Option.map_none]
    split
    ·simp
    ·rfl
theorem take_snoc {C : List Lk} {k : Nat} {x : Lk} (hx : C[k]? = some x) : C.take (k + 1) = C.take k ++ [x] := by rw [List.take_add_one, hx]; rfl
theorem take_len {C : List Lk} {k : Nat} {x : Lk} (hx : C[k]? = some x) : (C.take k).length = k := by
 have := (List.getElem?_eq_some_iff.1 hx).1
 rw [List.length_take]; omega
theorem fI_succ {C : List Lk} {k : Nat} {x : Lk} (hx : C[k]? = some x) (h0 : 0 <= x.to) (hn : into (C.take k) x.to = none) : iset (fI C k) x.to.toNat (k + 1) = fI C (k + 1) := by
 funext p
 unfold iset fI
 rw [take_snoc hx, into_snoc, take_len hx]
 by_cases e : p = x.to.toNat
 ·have e2 : (p : Int) = x.to := by omega
  rw [if_pos e, e2, hn]
  simp
 ·rw [if_neg e]
  cases h : into (C.take k) p with
  | some i => rfl
  | none =>
   simp only
   rw [if_neg (by omega)]
theorem into_first {C : List Lk} {k : Nat} {x : Lk} (hx : C[k]? = some x) : into C x.to = some k ↔ into (C.take k) x.to = none := by
 constructor
 ·intro h
  cases hi : into (C.take k) x.to with
  | none => rfl
  | some i =>
   obtain ⟨y, hy, hyp⟩ := into_some hi
   have hlt := into_lt hi
   rw [take_len hx] at hlt
   have h2 : ∀ (D E : List Lk) (p : Int) (i : Nat), into D p = some i -> into (D ++ E) p = some i := by
    intro D
    induction D with
    | nil => intro E p i h; cases h
    | cons z D ih =>
     intro E p i h
     rw [List.cons_append]
     rw [into] at h ⊢
     split
     ·rename_i e; rw [if_pos e] at h; exact h
     ·rename_i e
      rw [if_neg e] at h
      cases hj : into D p with
      | none => rw [hj] at h; cases h
      | some j => rw [hj] at h; rw [ih E p j hj]; exact h
   have h3 := h2 _ (C.drop k) _ _ hi
   rw [List.take_append_drop, h] at h3
   cases h3
   omega
 ·intro h
  exact into_at (into_none h) hx rfl
/-! ## The second part: bits -/
def bitsOf (l : List Nat) (w : Nat) : Nat := l.foldl (fun a i => if i / 64 = w then a ||| 2 ^ (i % 64) else a) 0
theorem bitsOf_snoc (l : List Nat) (i w : Nat) : bitsOf (l ++ [i]) w = if i / 64 = w then bitsOf l w ||| 2 ^ (i % 64) else bitsOf l w := by unfold bitsOf; rw [List.foldl_append]; rfl
theorem bits_lt (l : List Nat) (w : Nat) : bitsOf l w < 2 ^ 64 := by
 have key : ∀ (l : List Nat) (a : Nat), a < 2 ^ 64 -> l.foldl (fun a i => if i / 64 = w then a ||| 2 ^ (i % 64) else a) a < 2 ^ 64 := by
  intro l
  induction l with
  | nil => intro a h; exact h
  | cons i l ih =>
   intro a h
   rw [List.foldl_cons]
   refine ih _ ?_
   split
   ·exact Nat.or_lt_two_pow h (Nat.pow_lt_pow_right (by decide) (Nat.mod_lt _ (by decide)))
   ·exact h
 exact key l 0 (by decide)
/-- the tree of right called links -/
def gT (C : List Lk) (N k : Nat) (p : Nat) : Int := if p < k then root C N p else 0
def hT (C : List Lk) (N k : Nat) (q : Nat) : Nat := if q / 4 < k then bitsOf (chain C N (q / 4 : Nat)) (q % 4) else 0
def hT2 (C : List Lk) (N k j : Nat) (q : Nat) : Nat := if q / 4 < k then bitsOf (chain C N (q / 4 : Nat)) (q % 4) else if q / 4 = k then bitsOf (climb C j k).1 (q % 4) else 0
theorem gT_0 {C : List Lk} {N : Nat} : gT C N 0 = fun _ => 0 := by funext p; exact if_neg (by omega)
theorem hT_0 {C : List Lk} {N : Nat} : hT C N 0 = fun _ => 0 := by funext p; exact if_neg (by omega)
theorem hT2_0 {C : List Lk} {N k : Nat} : hT2 C N k 0 = hT C N k := by
 funext q
 unfold hT2 hT
 split
 ·rfl
 ·split <;> rfl
theorem hT2_end {C : List Lk} {N k j : Nat} (h : climb C j k = climb C N k) : hT2 C N k j = hT C N (k + 1) := by
 funext q
 unfold hT2 hT
 by_cases e : q / 4 < k
 ·rw [if_pos e, if_pos (by omega)]
 ·rw [if_neg e]
  by_cases e2 : q / 4 = k
  ·rw [if_pos e2, if_pos (by omega), e2, h]; rfl
  ·rw [if_neg e2, if_neg (by omega)]
theorem hT2_succ {C : List Lk} {N k j i : Nat} (hl : (climb C j k).1.length = j) (hi : into C (climb C j k).2 = some i) (hi4 : i < 256) : nset (hT2 C N k j) (k * 4 + i / 64) (hT2 C N k j (k * 4 + i / 64) ||| 2 ^ (i % 64)) = hT2 C N k (j + 1) := by
 have hw : i / 64 < 4 := by omega
 have e0 : (k * 4 + i / 64) / 4 = k := by omega
 have e1 : (k * 4 + i / 64) % 4 = i / 64 := by omega
 funext q
 unfold nset hT2
 rw [climb_snoc hl hi, e0, e1, if_neg (Nat.lt_irrefl k), if_pos rfl]
 by_cases e : q = k * 4 + i / 64
 ·subst e
  rw [if_pos rfl, e0, e1, if_neg (Nat.lt_irrefl k), if_pos rfl, bitsOf_snoc, if_pos rfl]
 ·rw [if_neg e]
  by_cases e2 : q / 4 < k
  ·rw [if_pos e2, if_pos e2]
  ·rw [if_neg e2, if_neg e2]
   by_cases e3 : q / 4 = k
   ·rw [if_pos e3, if_pos e3, bitsOf_snoc, if_neg (by omega)]
   ·rw [if_neg e3, if_neg e3]
theorem gT_succ {C : List Lk} {N k : Nat} : iset (gT C N k) k (root C N k) = gT C N (k + 1) := by
 funext p
 unfold iset gT
 by_cases e : p = k
 ·rw [if_pos e, if_pos (by omega), e]
 ·rw [if_neg e]
  by_cases e2 : p < k
  ·rw [if_pos e2, if_pos (by omega)]
  ·rw [if_neg e2, if_neg (by omega)]
theorem hT2_lt {C : List Lk} {N k j q : Nat} : hT2 C N k j q < 2 ^ 64 := by
 unfold hT2
 split
 ·exact bits_lt _ _
 ·split
  ·exact bits_lt _ _
  ·decide
def theTree (C : List Lk) (N : Nat) : List Value := treeL (fI C C.length) (gT C N N) (hT C N N)
end R23
end Go.Proofs

set_option maxRecDepth 100000
set_option maxHeartbeats 400000000
namespace Go.Proofs
open Go.RowKit Go.Kin Go.Kin.St Go.Kin.Ct
open R22
namespace R23
theorem treeZ {z : Value} (h : Go.Kin.look tt 114 = some ⟨.struct [(109, 0), (109, 64), (112, 128)], 384, 3072, z⟩) : cellsL z = treeL (fun _ => 0) (fun _ => 0) (fun _ => 0) := by
 cases h
 rfl
theorem tree_agg {f g : Nat -> Int} {h : Nat -> Nat} : aggV true 384 (treeL f g h) 0 = some (.agg ⟨treeL f g h⟩) := RowAt.agg ⟨by omega, by simp⟩ treeL_len
theorem res_tree {env : List (Nat × Value)} {mem : List (Nat × Obj)} {s t b : Nat} {f g : Nat -> Int} {h : Nat -> Nat} {v : Value} (hs : Go.Kin.look env s = some (.pointer (some ⟨b, 0, none⟩))) (hm : (b, Obj.cells ⟨treeL f g h⟩ 114 (0, 0)) ∈ mem) (ht : Go.Kin.look env t = some v) : Res tt env mem [.cell s 114, .tmp t] [.agg ⟨treeL f g h⟩, v] :=
 Res.cell (kd := .struct [(109, 0), (109, 64), (112, 128)]) (sz := 384) hs hm rfl tree_agg (Res.tmp ht Res.nil)
theorem fI_none {C : List Lk} {k : Nat} {p : Int} (h0 : 0 <= p) (h : into (C.take k) p = none) : fI C k p.toNat = 0 := by
 unfold fI
 rw [show ((p.toNat : Nat) : Int) = p by omega, h]
theorem fI_some {C : List Lk} {k i : Nat} {p : Int} (h0 : 0 <= p) (h : into (C.take k) p = some i) : fI C k p.toNat = i + 1 := by
 unfold fI
 rw [show ((p.toNat : Nat) : Int) = p by omega, h]
/-- what grow answers -/
def GrowQ (n : Int) (C : List Lk) (w : World) (e : Ending) (w' : World) : Prop :=
 Below w.heap.size w w' /\ ((Ends n C /\ okT n.toNat C /\ e = .returned (.tuple ⟨[.agg ⟨theTree C n.toNat⟩, .bool true]⟩)) ∨ (¬ (Ends n C /\ okT n.toNat C) /\ ∃ f g h, e = .returned (.tuple ⟨[.agg ⟨treeL f g h⟩, .bool false]⟩)))
theorem grow_calls (u : Un) (N : Nat) (w : World) (hn : u.n = N) (hN : N <= 64) (hA : u.In w) (hl : u.C.length <= 256) :
  Calls Tryz.prog 93 ⟨[.agg ⟨u.v⟩]⟩ w (GrowQ u.n u.C w) := by
 have hB := hA.c
 obtain ⟨n, A, cap, L, B, cab, C⟩ := u
 simp only [Un.v] at hB hl hn ⊢
 subst hn
 refine fEn Tryz.func93 rfl Tryz.ntmps93 rfl rfl (sWn w) ?_
 repeat (first|refine r_alloc rfl rfl rfl (treeZ rfl) (fun b2 => ?_)|refine lVa rfl rfl (by first|exact pEv rfl|exact vLd rfl (by repeat constructor) rfl (by rfl)|fail) ?_|refine lNi ?_|refine cRg ?_|refine cSq ?_|refine xTh ?_|refine r_box rfl rfl rfl rfl (fun _ => ?_)|refine cBl ?_|fail)
 rename_i b1
 refine c_loop (ι := Nat) (fun k => k <= C.length /\ ∀ i x, i < k -> C[i]? = some x -> Cal N x /\ into C x.to = some i) (fun k => [(1, .pointer (some ⟨b1, 0, none⟩)), (2, .pointer (some ⟨b2, 0, none⟩)), (3, .bool false), (10, .slice B C.length cab), (11, .int .i64 C.length), (12, .int .i64 k)])
  (fun k => [(b2, .cells ⟨treeL (fI C k) (fun _ => 0) (fun _ => 0)⟩ 114 (0, 0)), (b1, .cells ⟨[.int .i64 N, .slice A L.length cap, .slice B C.length cab]⟩ 24 (0, 0))]) (fun k => C.length - k) 0 ⟨by omega, fun i x hi => by omega⟩ (by repeat (first|exact .nil|refine .cons rfl (by first|rfl|(congr 1; done)|exact congrArg _ (by omega)|(simp; done)) ?_)) (by rw [fI_0]; exact MSub.refl _) ?_
 rintro k ⟨hk, hF⟩
 by_cases hlt : k < C.length
 ·obtain ⟨x, hx⟩ : ∃ x, C[k]? = some x := ⟨_, List.getElem?_eq_getElem hlt⟩
  obtain ⟨b', o, rfl, hq⟩ := hB k (lkE x) (by simp [hx])
  have he := ext_of hq
  by_cases hc : Cal N x
  ·have hcc := hc
   unfold Cal at hcc
   obtain ⟨c1, c2, c3, c4, c5, c6, c7, c8⟩ := hcc
   have hto : (treeL (fI C k) (fun _ => 0) (fun _ => 0))[x.to.toNat]? = some (.int .i64 (fI C k x.to.toNat)) := treeL_f (by omega)
   cases hi : into (C.take k) x.to with
   | none =>
    have hfx := fI_none c3 hi
    repeat (first|refine lVa rfl rfl (by first|exact v_add rfl rfl (by omega) (by omega)|exact pEv rfl|exact vLd rfl (by repeat constructor) rfl (by rfl)|exact vL0 rfl (by assumption) rfl (by rfl)|exact v_index rfl rfl rfl rfl (by omega) (by omega) (by with_reducible first|exact idx4 _ _ _|exact idx5 _|fail)|exact v_indexA rfl rfl rfl rfl (by omega) (by omega) (by with_reducible first|exact idx5 _|fail)|exact v_load_at rfl (by repeat constructor) rfl rfl (by first|assumption|fail)|fail) ?_|refine lNi ?_|refine cRg ?_|refine cSq ?_|refine xTh ?_|refine r_alloc rfl rfl rfl (by first|exact aggL|fail) (fun _ => ?_)|refine rSt rfl rfl rfl rfl rfl rfl rfl (by repeat constructor) (by rfl) ?_|refine c_dec_t rfl (by first|omega|fail) ?_|refine c_dec_f rfl (by first|omega|fail) ?_|refine cBl ?_|refine cSk ?_|refine l_dec_f rfl rfl rfl rfl rfl (by first|omega|fail) ?_|fail)
    refine r_store_at rfl rfl rfl rfl rfl rfl (by repeat constructor) (by rw [treeL_len]; omega) (treeL_sf (by omega)) ?_
    rw [fI_succ hx c3 hi]
    repeat (first|refine lVa rfl rfl (by first|exact v_add rfl rfl (by omega) (by omega)|exact pEv rfl|fail) ?_|refine lNi ?_|refine cRg ?_|refine xTh ?_|refine x_block ?_|fail)
    refine x_back (k + 1) ⟨hlt, fun i y hi2 hy => ?_⟩ (by omega) (by repeat (first|exact .nil|refine .cons rfl (by first|rfl|(congr 1; done)|exact congrArg _ (by omega)|(simp; done)) ?_)) (by repeat (first|exact .nil|refine .keep (by first|rfl|assumption) ?_|refine .drop ?_|exact MSub.refl _))
    by_cases e : i = k
    ·subst e
     rw [hx] at hy
     cases hy
     exact ⟨hc, (into_first hx).2 hi⟩
    ·exact hF i y (by omega) hy
   | some i =>
    have hfx := fI_some c3 hi
    have hno : ¬ Ends N C := fun h => by have := (into_first hx).1 (h k x hx).2; rw [hi] at this; cases this
    repeat (first|refine lVa rfl rfl (v_loadW rfl (by repeat constructor) rfl rfl treeL_len) ?_|refine rSt (vs := treeL _ _ _) rfl rfl rfl rfl rfl treeL_beq treeL_one (by repeat constructor) (putK_all (treeL_len.trans treeL_len.symm)) ?_|refine lVa rfl rfl (by first|exact pEv rfl|exact vLd rfl (by repeat constructor) rfl (by rfl)|exact vL0 rfl (by assumption) rfl (by rfl)|exact v_index rfl rfl rfl rfl (by omega) (by omega) (by with_reducible first|exact idx4 _ _ _|exact idx5 _|fail)|exact v_indexA rfl rfl rfl rfl (by omega) (by omega) (by with_reducible first|exact idx5 _|fail)|exact v_load_at rfl (by repeat constructor) rfl rfl (by first|assumption|fail)|fail) ?_|refine lNi ?_|refine cRg ?_|refine cSq ?_|refine xTh ?_|refine r_alloc rfl rfl rfl (by first|exact aggL|fail) (fun _ => ?_)|refine rSt rfl rfl rfl rfl rfl rfl rfl (by repeat constructor) (by rfl) ?_|refine c_dec_t rfl (by first|omega|fail) ?_|refine cBl ?_|refine cSk ?_|refine c_ret ?_|refine xTr ?_|refine xBr ?_|refine l_dec_f rfl rfl rfl rfl rfl (by first|omega|fail) ?_|fail)
    exact x_ret rfl rfl (res_tree rfl (by repeat constructor) rfl) rfl (fun W hW => ⟨hW.below, .inr ⟨fun g => hno g.1, _, _, _, rfl⟩⟩)
  ·have hno : ¬ Ends N C := fun h => hc (h k x hx).1
   repeat' (first|refine lVa rfl rfl (v_loadW rfl (by repeat constructor) rfl rfl treeL_len) ?_|refine rSt (vs := treeL _ _ _) rfl rfl rfl rfl rfl treeL_beq treeL_one (by repeat constructor) (putK_all (treeL_len.trans treeL_len.symm)) ?_|refine lVa rfl rfl (by first|exact pEv rfl|exact vLd rfl (by repeat constructor) rfl (by rfl)|exact vL0 rfl (by assumption) rfl (by rfl)|exact v_index rfl rfl rfl rfl (by omega) (by omega) (by with_reducible first|exact idx4 _ _ _|fail)|exact v_indexA rfl rfl rfl rfl (by omega) (by omega) (by with_reducible first|exact idx5 _|fail)|fail) ?_|refine lNi ?_|refine cRg ?_|refine cSq ?_|refine xTh ?_|refine l_skip rfl rfl ?_|refine r_alloc rfl rfl rfl (by first|exact aggL|fail) (fun _ => ?_)|refine rSt rfl rfl rfl rfl rfl rfl rfl (by repeat constructor) (by rfl) ?_|refine c_true rfl ?_|refine c_dec_t rfl (by first|omega|fail) ?_|refine cBl ?_|refine cSk ?_|refine c_ret ?_|refine xTr ?_|refine xBr ?_|refine l_dec rfl rfl rfl rfl rfl (fun _ => ?_) (fun _ => ?_)|fail)
   all_goals first
    | exact x_ret rfl rfl (res_tree rfl (by repeat constructor) rfl) rfl (fun W hW => ⟨hW.below, .inr ⟨fun g => hno g.1, _, _, _, rfl⟩⟩)
    | exact absurd (show Cal N x by unfold Cal; omega) hc
 have hke : k = C.length := by omega
 subst hke
 have hyes : Ends N C := fun i x hx => hF i x (List.getElem?_eq_some_iff.1 hx).1 hx
 have hcal : ∀ x ∈ C, Cal N x := fun x hx => by
  obtain ⟨i, hi⟩ := List.getElem?_of_mem hx
  exact (hyes i x hi).1
 clear hlt hF
 repeat (first|refine lVa rfl rfl (by first|exact pEv rfl|exact vLd rfl (by repeat constructor) rfl (by rfl)|fail) ?_|refine lNi ?_|refine cRg ?_|refine cSq ?_|refine xTh ?_|refine c_dec_f rfl (by first|omega|exact fun h => h rfl|fail) ?_|refine cBl ?_|refine c_exit ?_|refine xTe ?_|refine xBs ?_|fail)
 refine c_loop (ι := Nat) (fun p => p <= N /\ ∀ q : Nat, q < p -> into C (climb C N q).2 = none) (fun p => [(1, .pointer (some ⟨b1, 0, none⟩)), (2, .pointer (some ⟨b2, 0, none⟩)), (3, .bool false), (80, .int .i64 N), (81, .int .i64 p)])
  (fun p => [(b2, .cells ⟨treeL (fI C C.length) (gT C N p) (hT C N p)⟩ 114 (0, 0)), (b1, .cells ⟨[.int .i64 N, .slice A L.length cap, .slice B C.length cab]⟩ 24 (0, 0))]) (fun p => N - p) 0 ⟨Nat.zero_le _, fun q hq => by omega⟩ (by repeat (first|exact .nil|refine .cons rfl (by first|rfl|(congr 1; done)|exact congrArg _ (by omega)|(simp; done)) ?_)) (by rw [gT_0, hT_0]; exact MSub.refl _) ?_
 rintro p ⟨hp, hE⟩
 by_cases hlt : p < N
 rotate_left
 ·have hpe : p = N := by omega
  subst hpe
  repeat (first|refine lVa rfl rfl (v_loadW rfl (by repeat constructor) rfl rfl treeL_len) ?_|refine rSt (vs := treeL _ _ _) rfl rfl rfl rfl rfl treeL_beq treeL_one (by repeat constructor) (putK_all (treeL_len.trans treeL_len.symm)) ?_|refine lVa rfl rfl (by first|exact pEv rfl|fail) ?_|refine lNi ?_|refine cRg ?_|refine cSq ?_|refine xTh ?_|refine c_dec_f rfl (by first|omega|fail) ?_|refine c_ret ?_|refine c_exit ?_|refine xTe ?_|refine xBs ?_|fail)
  exact x_ret rfl rfl (res_tree rfl (by repeat constructor) rfl) rfl (fun W hW => ⟨hW.below, .inl ⟨hyes, fun q hq => hE q (by rw [Int.toNat_natCast] at hq; exact hq), by rw [Int.toNat_natCast]; rfl⟩⟩)
 rw [<- hT2_0]
 repeat (first|refine lVa rfl rfl (by first|exact pEv rfl|exact vLd rfl (by repeat constructor) rfl (by rfl)|fail) ?_|refine lNi ?_|refine cRg ?_|refine cSq ?_|refine xTh ?_|refine c_dec_t rfl (by first|omega|fail) ?_|refine cBl ?_|refine cSk ?_|fail)
 refine c_loop (ι := Nat) (fun j => j <= N /\ (climb C j p).1.length = j) (fun j => [(1, .pointer (some ⟨b1, 0, none⟩)), (2, .pointer (some ⟨b2, 0, none⟩)), (3, .bool false), (6, .int .i64 p), (7, .int .i64 (climb C j p).2), (80, .int .i64 N), (81, .int .i64 p), (86, .int .i64 N), (87, .int .i64 j)])
  (fun j => [(b2, .cells ⟨treeL (fI C C.length) (gT C N p) (hT2 C N p j)⟩ 114 (0, 0)), (b1, .cells ⟨[.int .i64 N, .slice A L.length cap, .slice B C.length cab]⟩ 24 (0, 0))]) (fun j => N - j) 0 ⟨Nat.zero_le _, rfl⟩ (by repeat (first|exact .nil|refine .cons rfl (by first|rfl|(congr 1; done)|exact congrArg _ (by omega)|(simp; done)) ?_)) (MSub.refl _) ?_
 rintro j ⟨hj, hcl⟩
 obtain ⟨a0, a1⟩ := climb_in hcal j p (by omega) (by omega)
 obtain ⟨at1, hat⟩ : ∃ a, (climb C j p).2 = a := ⟨_, rfl⟩
 rw [hat] at a0 a1 ⊢
 have hto : (treeL (fI C C.length) (gT C N p) (hT2 C N p j))[at1.toNat]? = some (.int .i64 (fI C C.length at1.toNat)) := treeL_f (by omega)
 cases hi : into C at1 with
 | none =>
  have hfx : fI C C.length at1.toNat = 0 := fI_none a0 (by rw [List.take_length]; exact hi)
  have hst := climb_stop (C := C) (f := j) (p := p) (by rw [hat]; exact hi) (N - j)
  rw [show j + (N - j) = N by omega] at hst
  have hend : into C (climb C N p).2 = none := by rw [hst, hat]; exact hi
  have hro : root C N p = at1 := by unfold root; rw [hst, hat]
  by_cases hjN : j < N
  ·repeat (first|refine lVa rfl rfl (by first|exact v_sub rfl rfl (by omega) (by omega)|exact pEv rfl|exact v_indexA rfl rfl rfl rfl (by omega) (by omega) (by with_reducible first|exact idx2 _ _|exact idx5 _|fail)|exact v_load_at rfl (by repeat constructor) rfl rfl (by first|assumption|fail)|fail) ?_|refine lNi ?_|refine cRg ?_|refine cSq ?_|refine xTh ?_|refine c_dec_t rfl (by first|omega|fail) ?_|refine c_dec_f rfl (by first|omega|exact fun h => h rfl|fail) ?_|refine cBl ?_|refine cSk ?_|refine c_exit ?_|refine xTe ?_|refine xBs ?_|refine x_block_other rfl ?_|fail)
   refine r_store_at rfl rfl rfl rfl rfl rfl (by repeat constructor) (by rw [treeL_len]; omega) (treeL_sg (by omega)) ?_
   rw [<- hro, gT_succ, hT2_end hst.symm]
   repeat (first|refine lVa rfl rfl (by first|exact v_add rfl rfl (by omega) (by omega)|exact pEv rfl|fail) ?_|refine lNi ?_|refine cRg ?_|refine xTh ?_|refine x_block ?_|fail)
   refine x_back (p + 1) ⟨hlt, fun q hq => ?_⟩ (by omega) (by repeat (first|exact .nil|refine .cons rfl (by first|rfl|(congr 1; done)|exact congrArg _ (by omega)|(simp; done)) ?_)) (by repeat (first|exact .nil|refine .keep (by first|rfl|assumption) ?_|refine .drop ?_|exact MSub.refl _))
   by_cases e : q = p
   ·rw [e]; exact hend
   ·exact hE q (by omega)
  ·repeat (first|refine lVa rfl rfl (by first|exact pEv rfl|exact v_indexA rfl rfl rfl rfl (by omega) (by omega) (by with_reducible first|exact idx2 _ _|exact idx5 _|fail)|exact v_load_at rfl (by repeat constructor) rfl rfl (by first|assumption|fail)|fail) ?_|refine lNi ?_|refine cRg ?_|refine cSq ?_|refine xTh ?_|refine c_dec_f rfl (by first|omega|fail) ?_|refine cSk ?_|refine c_exit ?_|refine xTe ?_|refine xBs ?_|fail)
   refine r_store_at rfl rfl rfl rfl rfl rfl (by repeat constructor) (by rw [treeL_len]; omega) (treeL_sg (by omega)) ?_
   rw [<- hro, gT_succ, hT2_end hst.symm]
   repeat (first|refine lVa rfl rfl (by first|exact v_add rfl rfl (by omega) (by omega)|exact pEv rfl|fail) ?_|refine lNi ?_|refine cRg ?_|refine xTh ?_|refine x_block ?_|fail)
   refine x_back (p + 1) ⟨hlt, fun q hq => ?_⟩ (by omega) (by repeat (first|exact .nil|refine .cons rfl (by first|rfl|(congr 1; done)|exact congrArg _ (by omega)|(simp; done)) ?_)) (by repeat (first|exact .nil|refine .keep (by first|rfl|assumption) ?_|refine .drop ?_|exact MSub.refl _))
   by_cases e : q = p
   ·rw [e]; exact hend
   ·exact hE q (by omega)
 | some i =>
  have hfx : fI C C.length at1.toNat = i + 1 := fI_some a0 (by rw [List.take_length]; exact hi)
  have hi2 : into C (climb C j p).2 = some i := by rw [hat]; exact hi
  have hci := into_lt hi
  by_cases hjN : j < N
  ·repeat ((fail_if_success refine c_probe (id := 15) ?_); (fail_if_success refine c_probe1 (id := 15) ?_); first|refine lVa rfl rfl (by first|exact v_sub rfl rfl (by omega) (by omega)|exact pEv rfl|exact v_indexA rfl rfl rfl rfl (by omega) (by omega) (by with_reducible first|exact idx5 _|fail)|exact v_load_at rfl (by repeat constructor) rfl rfl (by first|assumption|fail)|fail) ?_|refine lNi ?_|refine cRg ?_|refine cSq ?_|refine xTh ?_|refine c_dec_t rfl (by first|omega|fail) ?_|refine cBl ?_|refine cSk ?_|fail)
   rw [show fI C C.length at1.toNat - 1 = (i : Int) by omega]
   obtain ⟨x, hx, -⟩ := into_some hi
   obtain ⟨b', o, rfl, hq⟩ := hB i (lkE x) (by simp [hx])
   have he := ext_of hq
   have hf : frm C i = x.fr := by unfold frm; rw [hx]
   have hsn := climb_snoc hcl hi2
   have hb1 : hT2 C N p j (p * 4 + i / 64) < 18446744073709551616 := hT2_lt
   have hw : (treeL (fI C C.length) (gT C N p) (hT2 C N p j))[128 + p * 4 + i / 64]? = some (.int .u64 (hT2 C N p j (p * 4 + i / 64) : Nat)) := treeL_h (by omega) (by omega)
   repeat (first|refine lVa rfl rfl (by first|exact pEv rfl|fail) ?_|refine lNi ?_|refine cRg ?_|refine cSq ?_|refine xTh ?_|refine c_false rfl ?_|refine cSk ?_|fail)
   refine c_gen [(14,0)] [(14,0,128+p*4+i/64,1)] [(6,0)] rfl (by decide +kernel) (by repeat' (first|exact trivial|apply And.intro|exact Or.inl (Nat.ne_of_beq_eq_false rfl)|(right; simp only; omega))) ?_; repeat (first|refine g_val rfl rfl rfl (v_quoN (n := 64) rfl rfl (by decide) (by omega)) ?_|refine g_val rfl rfl rfl (v_remN (n := 64) rfl rfl (by decide)) ?_|refine g_val rfl rfl rfl (v_load_at rfl (by repeat constructor) rfl rfl hw) ?_|refine g_val rfl rfl rfl (v_uor rfl rfl hb1 (Nat.mod_lt _ (by decide))) ?_|refine g_val rfl rfl rfl (by first|exact v_ushl rfl rfl (by omega)|exact pEv rfl|exact v_indexA rfl rfl rfl rfl (by omega) (by omega) (by with_reducible first|exact idx2 _ _|exact idx4 _ _ _|fail)|fail) ?_|fail)
   refine g_store rfl rfl rfl rfl rfl rfl rfl rfl rfl rfl rfl (by rw [treeL_len]; omega) (splice_one (by rw [treeL_len]; omega) (treeL_sh (by omega) (by omega))) rfl ?_
   have hpow : 1 * 2 ^ (i % 64) % 18446744073709551616 = 2 ^ (i % 64) := by
    rw [Nat.one_mul]
    exact Nat.mod_eq_of_lt (show 2 ^ (i % 64) < 2 ^ 64 from Nat.pow_lt_pow_right (by decide) (Nat.mod_lt _ (by decide)))
   rw [hpow, hT2_succ hcl hi2 (by omega)]
   repeat (first|refine lVa rfl rfl (by first|exact v_add rfl rfl (by omega) (by omega)|exact pEv rfl|exact vLd rfl (by repeat constructor) rfl (by rfl)|exact vL0 rfl (by assumption) rfl (by rfl)|exact v_index rfl rfl rfl rfl (by omega) (by omega) (by with_reducible first|exact idx4 _ _ _|fail)|fail) ?_|refine lNi ?_|refine cRg ?_|refine xTh ?_|refine x_block ?_|refine g_nil ?_|fail)
   refine x_back (j + 1) ⟨hjN, by rw [hsn, List.length_append, hcl]; rfl⟩ (by omega) ?_ (by repeat (first|exact .nil|refine .keep (by first|rfl|assumption) ?_|refine .drop ?_|exact MSub.refl _))
   rw [hsn, hf]
   exact (by repeat (first|exact .nil|refine .cons rfl (by first|rfl|(congr 1; done)|exact congrArg _ (by omega)|(simp; done)) ?_))
  ·have hje : j = N := by omega
   subst hje
   have hno : ¬ okT j C := fun h => by have := h p hlt; rw [hi2] at this; cases this
   repeat (first|refine lVa rfl rfl (v_loadW rfl (by repeat constructor) rfl rfl treeL_len) ?_|refine rSt (vs := treeL _ _ _) rfl rfl rfl rfl rfl treeL_beq treeL_one (by repeat constructor) (putK_all (treeL_len.trans treeL_len.symm)) ?_|refine lVa rfl rfl (by first|exact pEv rfl|exact v_indexA rfl rfl rfl rfl (by omega) (by omega) (by with_reducible first|exact idx5 _|fail)|exact v_load_at rfl (by repeat constructor) rfl rfl (by first|assumption|fail)|fail) ?_|refine lNi ?_|refine cRg ?_|refine cSq ?_|refine xTh ?_|refine c_dec_t rfl (by first|omega|fail) ?_|refine c_dec_f rfl (by first|omega|fail) ?_|refine c_ret ?_|refine c_exit ?_|refine xTr ?_|refine xTe ?_|refine xBr ?_|refine xBs ?_|fail)
   exact x_ret rfl rfl (res_tree rfl (by repeat constructor) rfl) rfl (fun W hW => ⟨hW.below, .inr ⟨fun g => hno (by have := g.2; rw [Int.toNat_natCast] at this; exact this), _, _, _, rfl⟩⟩)
end R23
end Go.Proofs

/- Games on networks: what is asked of a game. -/
import Derived.Test.YtcodoembnjemkaaGreatSgE
import Derived.Test.YtcodoembnjemkaaGreatCtB
set_option maxRecDepth 100000
set_option maxHeartbeats 400000000
set_option linter.unusedSectionVars false
set_option linter.unusedVariables false
set_option linter.unusedSimpArgs false
namespace Go.Proofs
open Go.RowKit Go.Kin Go.Kin.St Go.Kin.Ct Go.Kin.Sg
namespace R24
/-- what is answered -/
noncomputable def chkS (n : Int) (L C : List Lk) (T : Int) : Int :=
 if R23.chkU n L C ≠ 0 then R23.chkU n L C else if T < 1 ∨ 15 < T then 1 else if 6 < n ∨ 4096 < (T.toNat + 1) ^ n.toNat then 2 else if C.any (fun x => decide (x.lo < 1)) then 240 else 0
theorem chkS_a {n T : Int} {L C : List Lk} (h : R23.chkU n L C ≠ 0) : chkS n L C T = R23.chkU n L C := if_pos h
theorem chkS_1 {n T : Int} {L C : List Lk} (h : R23.chkU n L C = 0) (h1 : T < 1 ∨ 15 < T) : chkS n L C T = 1 := by unfold chkS; rw [if_neg (fun g => g h), if_pos h1]
theorem chkS_2 {n T : Int} {L C : List Lk} (h : R23.chkU n L C = 0) (h1 : ¬ (T < 1 ∨ 15 < T)) (h2 : 6 < n ∨ 4096 < (T.toNat + 1) ^ n.toNat) : chkS n L C T = 2 := by unfold chkS; rw [if_neg (fun g => g h), if_neg h1, if_pos h2]
theorem chkS_3 {n T : Int} {L C : List Lk} (h : R23.chkU n L C = 0) (h1 : ¬ (T < 1 ∨ 15 < T)) (h2 : ¬ (6 < n ∨ 4096 < (T.toNat + 1) ^ n.toNat)) : chkS n L C T = if C.any (fun x => decide (x.lo < 1)) then 240 else 0 := by unfold chkS; rw [if_neg (fun g => g h), if_neg h1, if_neg h2]
theorem chkS_ok {n T : Int} {L C : List Lk} (h : chkS n L C T = 0) : R23.chkU n L C = 0 /\ 1 <= T /\ T <= 15 /\ n <= 6 /\ (T.toNat + 1) ^ n.toNat <= 4096 /\ ∀ x ∈ C, 1 <= x.lo := by
 by_cases h0 : R23.chkU n L C = 0
 ·by_cases h1 : T < 1 ∨ 15 < T
  ·rw [chkS_1 h0 h1] at h; cases h
  ·by_cases h2 : 6 < n ∨ 4096 < (T.toNat + 1) ^ n.toNat
   ·rw [chkS_2 h0 h1 h2] at h; cases h
   ·rw [chkS_3 h0 h1 h2] at h
    split at h
    ·cases h
    ·rename_i h3
     refine ⟨h0, by omega, by omega, by omega, by omega, fun x hx => ?_⟩
     have h4 : C.any (fun x => decide (x.lo < 1)) = false := by simpa using h3
     have := List.any_eq_false.1 h4 x hx
     simp only [decide_eq_true_eq] at this
     omega
 ·rw [chkS_a h0] at h; exact absurd h h0
theorem low_calls (x : Lk) (w : World) : Calls Tryz.prog 48 ⟨[] ++ [.agg ⟨lkE x⟩] ++ []⟩ w fun e w' => e = .returned (.bool (decide (x.lo < 1))) /\ Below w.heap.size w w' := by
 refine fun_enter Tryz.func48 rfl Tryz.ntmps48 rfl rfl (satW_nil w) ?_
 repeat (first|refine l_val rfl rfl (by first|exact pureEval_ok rfl|exact v_load rfl (by repeat constructor) rfl (by rfl)|fail) ?_|refine l_nil ?_|refine c_region ?_|refine c_seq ?_|refine x_then ?_|refine r_box rfl rfl rfl rfl (fun _ => ?_)|refine c_ret ?_|fail)
 exact x_ret rfl rfl (by repeat (first|exact .nil|(apply Res.tmp; rfl)|(apply Res.cell; rfl; exact (by repeat constructor); rfl; rfl))) rfl (fun W hW => ⟨rfl, hW.below⟩)
theorem indexL_calls (B : Option Addr) (cap : Nat) (C : List Lk) (w : World) (hB : Kin.At w B 4 (C.map lkE)) (hl : C.length <= 9223372036854775807) :
  Calls Tryz.prog 75 ⟨[.slice B C.length cap, .func (.func 48) ⟨[]⟩ ⟨[]⟩]⟩ w fun e w' => ∃ r : { r : Int // decide (0 <= r) = C.any (fun x => decide (x.lo < 1)) }, e = .returned (.int .i64 r.1) /\ Below w.heap.size w w' := by
 refine fun_enter Tryz.func75 rfl Tryz.ntmps75 rfl rfl (satW_nil w) ?_
 repeat (first|refine l_val rfl rfl (by first|exact pureEval_ok rfl|fail) ?_|refine l_nil ?_|refine c_region ?_|refine c_seq ?_|refine x_then ?_|refine c_block ?_|fail)
 refine c_loop (ι := Nat) (fun k => k <= C.length /\ ∀ x ∈ C.take k, decide (x.lo < 1) = false) (fun k => [(0, .slice B C.length cap), (1, .func (.func 48) ⟨[]⟩ ⟨[]⟩), (7, .int .i64 C.length), (8, .int .i64 k)]) (fun _ => []) (fun k => C.length - k) 0 ⟨Nat.zero_le _, fun u hu => by simp at hu⟩ (by repeat (first|exact .nil|refine .cons rfl (by first|rfl|(congr 1; done)|exact congrArg _ (by omega)|(simp; done)) ?_)) (by repeat (first|exact .nil|refine .keep (by first|rfl|assumption) ?_|refine .drop ?_|exact MSub.refl _)) ?_
 rintro k ⟨hk, hF⟩
 by_cases hlt : k < C.length
 ·obtain ⟨y, hy⟩ : ∃ y, C[k]? = some y := ⟨_, List.getElem?_eq_getElem hlt⟩
  obtain ⟨b', o, rfl, hc⟩ := hB k (lkE y) (by simp [hy])
  have he := ext_of hc
  repeat (first|refine l_val rfl rfl (by first|exact pureEval_ok rfl|exact v_load_ext0 rfl (by assumption) rfl (by rfl)|exact v_index rfl rfl rfl rfl (by omega) (by omega) (by with_reducible first|exact idx4 _ _ _|fail)|fail) ?_|refine l_nil ?_|refine c_region ?_|refine c_seq ?_|refine x_then ?_|refine c_dec_t rfl (by first|omega|fail) ?_|refine c_block ?_|refine c_skip ?_|fail)
  refine r_callv rfl rfl rfl rfl rfl (fun W hW => low_calls y W) ?_
  cases hg : decide (y.lo < 1) with
  | false =>
   repeat (first|refine l_val rfl rfl (by first|exact v_add rfl rfl (by omega) (by omega)|exact pureEval_ok rfl|fail) ?_|refine l_nil ?_|refine c_region ?_|refine x_then ?_|refine c_false rfl ?_|refine c_skip ?_|refine x_block ?_|fail)
   refine x_back (k + 1) ⟨hlt, fun z hz => ?_⟩ (by omega) (by repeat (first|exact .nil|refine .cons rfl (by first|rfl|(congr 1; done)|exact congrArg _ (by omega)|(simp; done)) ?_)) (by repeat (first|exact .nil|refine .keep (by first|rfl|assumption) ?_|refine .drop ?_|exact MSub.refl _))
   rw [List.take_add_one, hy] at hz
   rcases List.mem_append.1 hz with h | h
   ·exact hF z h
   ·simp only [Option.toList_some, List.mem_singleton] at h
    rw [h]; exact hg
  | true =>
   repeat (first|refine l_val rfl rfl (by first|exact pureEval_ok rfl|fail) ?_|refine l_nil ?_|refine c_region ?_|refine c_seq ?_|refine x_then ?_|refine c_true rfl ?_|refine c_ret ?_|refine x_then_ret ?_|refine x_block_ret ?_|fail)
   exact x_ret rfl rfl (by repeat (first|exact .nil|(apply Res.tmp; rfl)|(apply Res.cell; rfl; exact (by repeat constructor); rfl; rfl))) rfl (fun W hW => ⟨⟨(k : Int), by rw [decide_eq_true (by omega)]; exact (List.any_eq_true.2 ⟨y, List.mem_of_getElem? hy, hg⟩).symm⟩, rfl, hW.below⟩)
 ·have hkl : k = C.length := by omega
  subst hkl
  rw [List.take_length] at hF
  repeat (first|refine l_val rfl rfl (by first|exact pureEval_ok rfl|fail) ?_|refine l_nil ?_|refine c_region ?_|refine c_seq ?_|refine x_then ?_|refine c_dec_f rfl (by first|omega|fail) ?_|refine c_ret ?_|refine c_exit ?_|refine x_then_exit ?_|refine x_block_same ?_|fail)
  exact x_ret rfl rfl (by repeat (first|exact .nil|(apply Res.tmp; rfl)|(apply Res.cell; rfl; exact (by repeat constructor); rfl; rfl))) rfl (fun W hW => ⟨⟨-1, by rw [decide_eq_false (by omega)]; exact (List.any_eq_false.2 fun x hx => by rw [hF x hx]; simp).symm⟩, rfl, hW.below⟩)
theorem anyL_calls (B : Option Addr) (cap : Nat) (C : List Lk) (w : World) (hB : Kin.At w B 4 (C.map lkE)) (hl : C.length <= 9223372036854775807) :
  Calls Tryz.prog 47 ⟨[.slice B C.length cap, .func (.func 48) ⟨[]⟩ ⟨[]⟩]⟩ w fun e w' => e = .returned (.bool (C.any (fun x => decide (x.lo < 1)))) /\ Below w.heap.size w w' := by
 refine fun_enter Tryz.func47 rfl Tryz.ntmps47 rfl rfl (satW_nil w) ?_
 repeat (first|refine l_val rfl rfl (by first|exact pureEval_ok rfl|fail) ?_|refine l_nil ?_|refine c_region ?_|refine c_seq ?_|refine x_then ?_|fail)
 refine r_callI (ι := { r : Int // decide (0 <= r) = C.any (fun x => decide (x.lo < 1)) }) (v := fun r => .int .i64 r.1) rfl rfl rfl (fun W hW => indexL_calls B cap C W (hB.sat hW) hl) (fun r => ?_)
 repeat (first|refine l_val rfl rfl (by first|exact pureEval_ok rfl|fail) ?_|refine l_nil ?_|refine x_then ?_|refine c_ret ?_|fail)
 exact x_ret rfl rfl (by repeat (first|exact .nil|(apply Res.tmp; rfl)|(apply Res.cell; rfl; exact (by repeat constructor); rfl; rfl))) rfl (fun W hW => ⟨by rw [r.2], hW.below⟩)
end R24
end Go.Proofs

namespace Go.Kin
open Go.RowKit
section
variable {P : Program} {N : Nat} {c : Cx} {Q : Exit -> Act -> World -> Prop} {env : List (Nat × Value)} {mem : List (Nat × Obj)} {L l : List Oper} {tt : List (TypeId × TI)} {ty : TypeId} {pos : String} {af : Array Edge} {g : Option (Nat × Bool)} {dd : Option Tmp} {t t' : TypeId} {x y : Operand}
/-- a block, whole -/
theorem v_loadW [Wide c.F] [T : TT P tt] {b sz bt : Nat} {kd : TK} {z : Value} {cs : List Value} {T' : TypeId} {fr : Nat × Nat}
  (hx : evOp env x = some (.pointer (some ⟨b, 0, none⟩))) (hm : (b, Obj.cells ⟨cs⟩ T' fr) ∈ mem) (ht : look tt t = some ⟨kd, sz, bt, z⟩) (hk : kd.isAgg = true) (hs : cs.length = sz) :
  OpVal P N c env mem ⟨dd, .load t x, ty, pos, af, g⟩ (.agg ⟨cs⟩) :=
 v_load_row (r := cs) hx hm ht hk ⟨by omega, by simp⟩ (by rw [hs]; exact Nat.beq_refl _)
theorem putK_all {β : Type} : ∀ {cs vs : List Value} {k : List Value -> Option β}, cs.length = vs.length -> putK cs 0 vs k = k vs
 | [], [], k, _ => rfl
 | _ :: cs, v :: vs, k, h => putK_all (cs := cs) (vs := vs) (k := fun r => k (v :: r)) (by simpa using h)
theorem v_remN [Wide c.F] {m n : Nat} (hx : evOp env x = some (.int .i64 m)) (hy : evOp env y = some (.int .i64 n)) (h1 : 0 < n) : OpVal P N c env mem ⟨dd, .binOp .rem t x y t', ty, pos, af, g⟩ (.int .i64 ((m % n : Nat) : Int)) := by
 rw [Int.natCast_emod]
 exact v_rem hx hy (by omega) (by omega)
theorem v_quoN [Wide c.F] {m n : Nat} (hx : evOp env x = some (.int .i64 m)) (hy : evOp env y = some (.int .i64 n)) (h1 : 0 < n) (h2 : m <= 9223372036854775807) : OpVal P N c env mem ⟨dd, .binOp .quo t x y t', ty, pos, af, g⟩ (.int .i64 ((m / n : Nat) : Int)) := by
 rw [Int.natCast_ediv]
 exact v_quo hx hy (by omega) (by omega) (by omega)
end
end Go.Kin
namespace Go.Proofs
open Go.RowKit Go.Kin Go.Kin.St Go.Kin.Ct
open R22
namespace R23
def treeC (f g : Nat -> Int) (h : Nat -> Nat) (k : Nat) : Value := if k < 64 then .int .i64 (f k) else if k < 128 then .int .i64 (g (k - 64)) else .int .u64 (h (k - 128) : Nat)
def treeL (f g : Nat -> Int) (h : Nat -> Nat) : List Value := vec 384 (treeC f g h)
theorem treeL_len {f g : Nat -> Int} {h : Nat -> Nat} : (treeL f g h).length = 384 := vec_length _ _
theorem treeL_beq {f g : Nat -> Int} {h : Nat -> Nat} : Nat.beq (treeL f g h).length 384 = true := by rw [treeL_len]; rfl
theorem allOne_of {l : List Value} (h : ∀ v ∈ l, v.oneCell' = true) : allOne l = true := by
 induction l with
 | nil => rfl
 | cons v l ih =>
  have h1 := h v List.mem_cons_self
  have h2 := ih fun u hu => h u (List.mem_cons_of_mem _ hu)
  cases v <;> first|exact h2|(cases h1)
theorem treeL_one {f g : Nat -> Int} {h : Nat -> Nat} : allOne (treeL f g h) = true := allOne_of fun v hv => by
 obtain ⟨k, _, rfl⟩ := List.mem_map.1 hv
 unfold treeC
 split
 ·rfl
 ·split <;> rfl
theorem treeL_f {f g : Nat -> Int} {h : Nat -> Nat} {p : Nat} (hp : p < 64) : (treeL f g h)[p]? = some (.int .i64 (f p)) := by
 unfold treeL
 rw [vec_get (by omega)]
 unfold treeC
 rw [if_pos hp]
theorem treeL_h {f g : Nat -> Int} {h : Nat -> Nat} {p q : Nat} (hp : p < 64) (hq : q < 4) : (treeL f g h)[128 + p * 4 + q]? = some (.int .u64 (h (p * 4 + q) : Nat)) := by
 unfold treeL
 rw [vec_get (by omega)]
 unfold treeC
 rw [if_neg (by omega), if_neg (by omega), show 128 + p * 4 + q - 128 = p * 4 + q by omega]
def nset (h : Nat -> Nat) (q v : Nat) : Nat -> Nat := fun j => if j = q then v else h j
theorem treeL_sf {f g : Nat -> Int} {h : Nat -> Nat} {p : Nat} {v : Int} (hp : p < 64) : (treeL f g h).set p (.int .i64 v) = treeL (iset f p v) g h := by
 unfold treeL
 rw [vec_set]
 congr 1
 funext j
 unfold treeC iset
 by_cases e : j = p
 ·rw [if_pos e, if_pos (by omega), if_pos e]
 ·rw [if_neg e, if_neg e]
theorem treeL_sg {f g : Nat -> Int} {h : Nat -> Nat} {p : Nat} {v : Int} (hp : p < 64) : (treeL f g h).set (64 + p) (.int .i64 v) = treeL f (iset g p v) h := by
 unfold treeL
 rw [vec_set]
 congr 1
 funext j
 unfold treeC iset
 by_cases e : j = 64 + p
 ·rw [if_pos e, if_neg (by omega), if_pos (by omega), if_pos (by omega)]
 ·rw [if_neg e]
  by_cases e1 : j < 64
  ·rw [if_pos e1, if_pos e1]
  ·rw [if_neg e1, if_neg e1]
   by_cases e2 : j < 128
   ·rw [if_pos e2, if_pos e2, if_neg (by omega)]
   ·rw [if_neg e2, if_neg e2]
theorem treeL_sh {f g : Nat -> Int} {h : Nat -> Nat} {p q v : Nat} (hp : p < 64) (hq : q < 4) : (treeL f g h).set (128 + p * 4 + q) (.int .u64 (v : Nat)) = treeL f g (nset h (p * 4 + q) v) := by
 unfold treeL
 rw [vec_set]
 congr 1
 funext j
 unfold treeC nset
 by_cases e : j = 128 + p * 4 + q
 ·rw [if_pos e, if_neg (by omega), if_neg (by omega), if_pos (by omega)]
 ·rw [if_neg e]
  by_cases e1 : j < 64
  ·rw [if_pos e1, if_pos e1]
  ·rw [if_neg e1, if_neg e1]
   by_cases e2 : j < 128
   ·rw [if_pos e2, if_pos e2]
   ·rw [if_neg e2, if_neg e2, if_neg (by omega)]
/-! ## The first part: links by their ends -/
def fI (C : List Lk) (k : Nat) (p : Nat) : Int := match into (C.take k) p with | some i => (i : Int) + 1 | none => 0
theorem fI_0 {C : List Lk} : fI C 0 = fun _ => 0 := by funext p; unfold fI; rw [List.take_zero]; rfl
theorem into_snoc {C : List Lk} {x : Lk} {p : Int} : into (C ++ [x]) p = match into C p with | some i => some i | none => if x.to = p then some C.length else none := by
 induction C with
 | nil => simp only [List.nil_append, into]; split <;> rfl
 | cons y C ih =>
  simp only [List.cons_append, into]
  by_cases e : y.to = p
  ·rw [if_pos e, if_pos e]
  ·rw [if_neg e, if_neg e, ih]
   cases h : into C p with
   | some i => rfl
   | none =>
    simp only [Option.map_none]
    split
    ·simp
    ·rfl
theorem take_snoc {C : List Lk} {k : Nat} {x : Lk} (hx : C[k]? = some x) : C.take (k + 1) = C.take k ++ [x] := by rw [List.take_add_one, hx]; rfl
theorem take_len {C : List Lk} {k : Nat} {x : Lk} (hx : C[k]? = some x) : (C.take k).length = k := by
 have := (List.getElem?_eq_some_iff.1 hx).1
 rw [List.length_take]; omega
theorem fI_succ {C : List Lk} {k : Nat} {x : Lk} (hx : C[k]? = some x) (h0 : 0 <= x.to) (hn : into (C.take k) x.to = none) : iset (fI C k) x.to.toNat (k + 1) = fI C (k + 1) := by
 funext p
 unfold iset fI
 rw [take_snoc hx, into_snoc, take_len hx]
 by_cases e : p = x.to.toNat
 ·have e2 : (p : Int) = x.to := by omega
  rw [if_pos e, e2, hn]
  simp
 ·rw [if_neg e]
  cases h : into (C.take k) p with
  | some i => rfl
  | none =>
   simp only
   rw [if_neg (by omega)]
theorem into_first {C : List Lk} {k : Nat} {x : Lk} (hx : C[k]? = some x) : into C x.to = some k ↔ into (C.take k) x.to = none := by
 constructor
 ·intro h
  cases hi : into (C.take k) x.to with
  | none => rfl
  | some i =>
   obtain ⟨y, hy, hyp⟩ := into_some hi
   have hlt := into_lt hi
   rw [take_len hx] at hlt
   have h2 : ∀ (D E : List Lk) (p : Int) (i : Nat), into D p = some i -> into (D ++ E) p = some i := by
    intro D
    induction D with
    | nil => intro E p i h; cases h
    | cons z D ih =>
     intro E p i h
     rw [List.cons_append]
     rw [into] at h ⊢
     split
     ·rename_i e; rw [if_pos e] at h; exact h
     ·rename_i e
      rw [if_neg e] at h
      cases hj : into D p with
      | none => rw [hj] at h; cases h
      | some j => rw [hj] at h; rw [ih E p j hj]; exact h
   have h3 := h2 _ (C.drop k) _ _ hi
   rw [List.take_append_drop, h] at h3
   cases h3
   omega
 ·intro h
  exact into_at (into_none h) hx rfl
/-! ## The second part: bits -/
def bitsOf (l : List Nat) (w : Nat) : Nat := l.foldl (fun a i => if i / 64 = w then a ||| 2 ^ (i % 64) else a) 0
theorem bitsOf_snoc (l : List Nat) (i w : Nat) : bitsOf (l ++ [i]) w = if i / 64 = w then bitsOf l w ||| 2 ^ (i % 64) else bitsOf l w := by unfold bitsOf; rw [List.foldl_append]; rfl
theorem bits_lt (l : List Nat) (w : Nat) : bitsOf l w < 2 ^ 64 := by
 have key : ∀ (l : List Nat) (a : Nat), a < 2 ^ 64 -> l.foldl (fun a i => if i / 64 = w then a ||| 2 ^ (i % 64) else a) a < 2 ^ 64 := by
  intro l
  induction l with
  | nil => intro a h; exact h
  | cons i l ih =>
   intro a h
   rw [List.foldl_cons]
   refine ih _ ?_
   split
   ·exact Nat.or_lt_two_pow h (Nat.pow_lt_pow_right (by decide) (Nat.mod_lt _ (by decide)))
   ·exact h
 exact key l 0 (by decide)
/-- the tree of right called links -/
def gT (C : List Lk) (N k : Nat) (p : Nat) : Int := if p < k then root C N p else 0
def hT (C : List Lk) (N k : Nat) (q : Nat) : Nat := if q / 4 < k then bitsOf (chain C N (q / 4 : Nat)) (q % 4) else 0
def hT2 (C : List Lk) (N k j : Nat) (q : Nat) : Nat := if q / 4 < k then bitsOf (chain C N (q / 4 : Nat)) (q % 4) else if q / 4 = k then bitsOf (climb C j k).1 (q % 4) else 0
theorem gT_0 {C : List Lk} {N : Nat} : gT C N 0 = fun _ => 0 := by funext p; exact if_neg (by omega)
theorem hT_0 {C : List Lk} {N : Nat} : hT C N 0 = fun _ => 0 := by funext p; exact if_neg (by omega)
theorem hT2_0 {C : List Lk} {N k : Nat} : hT2 C N k 0 = hT C N k := by
 funext q
 unfold hT2 hT
 split
 ·rfl
 ·split <;> rfl
theorem hT2_end {C : List Lk} {N k j : Nat} (h : climb C j k = climb C N k) : hT2 C N k j = hT C N (k + 1) := by
 funext q
 unfold hT2 hT
 by_cases e : q / 4 < k
 ·rw [if_pos e, if_pos (by omega)]
 ·rw [if_neg e]
  by_cases e2 : q / 4 = k
  ·rw [if_pos e2, if_pos (by omega), e2, h]; rfl
  ·rw [if_neg e2, if_neg (by omega)]
theorem hT2_succ {C : List Lk} {N k j i : Nat} (hl : (climb C j k).1.length = j) (hi : into C (climb C j k).2 = some i) (hi4 : i < 256) : nset (hT2 C N k j) (k * 4 + i / 64) (hT2 C N k j (k * 4 + i / 64) ||| 2 ^ (i % 64)) = hT2 C N k (j + 1) := by
 have hw : i / 64 < 4 := by omega
 have e0 : (k * 4 + i / 64) / 4 = k := by omega
 have e1 : (k * 4 + i / 64) % 4 = i / 64 := by omega
 funext q
 unfold nset hT2
 rw [climb_snoc hl hi, e0, e1, if_neg (Nat.lt_irrefl k), if_pos rfl]
 by_cases e : q = k * 4 + i / 64
 ·subst e
  rw [if_pos rfl, e0, e1, if_neg (Nat.lt_irrefl k), if_pos rfl, bitsOf_snoc, if_pos rfl]
 ·rw [if_neg e]
  by_cases e2 : q / 4 < k
  ·rw [if_pos e2, if_pos e2]
  ·rw [if_neg e2, if_neg e2]
   by_cases e3 : q / 4 = k
   ·rw [if_pos e3, if_pos e3, bitsOf_snoc, if_neg (by omega)]
   ·rw [if_neg e3, if_neg e3]
theorem gT_succ {C : List Lk} {N k : Nat} : iset (gT C N k) k (root C N k) = gT C N (k + 1) := by
 funext p
 unfold iset gT
 by_cases e : p = k
 ·rw [if_pos e, if_pos (by omega), e]
 ·rw [if_neg e]
  by_cases e2 : p < k
  ·rw [if_pos e2, if_pos (by omega)]
  ·rw [if_neg e2, if_neg (by omega)]
theorem hT2_lt {C : List Lk} {N k j q : Nat} : hT2 C N k j q < 2 ^ 64 := by
 unfold hT2
 split
 ·exact bits_lt _ _
 ·split
  ·exact bits_lt _ _
  ·decide
def theTree (C : List Lk) (N : Nat) : List Value := treeL (fI C C.length) (gT C N N) (hT C N N)
end R23
end Go.Proofs

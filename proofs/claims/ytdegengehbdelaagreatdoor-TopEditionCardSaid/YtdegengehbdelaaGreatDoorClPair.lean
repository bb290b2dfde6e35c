/- The engine: signed numbers of 64 bits, bit by bit; calls that keep a word; words laid over blocks. Generic: no program is named here. -/
import Derived.Test.YtdegengehbdelaaGreatDoorEng21
import Derived.Laws.BitsLemmas
set_option linter.unusedSectionVars false
set_option linter.unusedVariables false
set_option linter.unusedSimpArgs false
namespace Go
open Go.RowKit
namespace Kin
section
variable {P : Program} {N : Nat} {c : Cx} {Q : Exit -> Act -> World -> Prop} {env : List (Nat × Value)} {mem : List (Nat × Obj)} {L l : List Oper} {tt : List (TypeId × TI)}
 {ty : TypeId} {pos : String} {af : Array Edge} {g : Option (Nat × Bool)} {dd : Option Tmp} {t t' : TypeId} {x y : Operand}
/-! ## Bits -/
theorem v_shlA {k' : IntKind} {m r : Int} {n : Nat} (hx : evOp env x = some (.int .i64 m)) (hy : evOp env y = some (.int k' n)) (h : n <= 64) (hr : IntKind.i64.wrap (m * 2 ^ n) = r) : OpVal P N c env mem ⟨dd, .binOp .shl t x y t', ty, pos, af, g⟩ (.int .i64 r) :=
 ⟨rfl, fun a W ha _ => by
  have hmin : min n IntKind.i64.bits = n := by show min n 64 = n; omega
  have : (execOp a.eval ⟨dd, .binOp .shl t x y t', ty, pos, af, g⟩).run P W = .ok (.value (.int .i64 (IntKind.i64.wrap (m * 2 ^ n)))) W := by
   simp [execOp, ha.eval hx, ha.eval hy, eqGuard, binOp, Op.shift, hmin, Sem.run, pure, bind, Sem.bind]
  rw [this, hr]⟩
theorem v_shrA {k' : IntKind} {m r : Int} {n : Nat} (hx : evOp env x = some (.int .i64 m)) (hy : evOp env y = some (.int k' n)) (h : n <= 64) (hr : m / 2 ^ n = r) : OpVal P N c env mem ⟨dd, .binOp .shr t x y t', ty, pos, af, g⟩ (.int .i64 r) :=
 ⟨rfl, fun a W ha _ => by
  have hs : Op.shift .shr .i64 m k' n = pure (.int .i64 (m / 2 ^ n)) := by
   have := shift_shr .i64 k' m n (Int.natCast_nonneg n) (by show (n : Int) <= ((64 : Nat) : Int); omega)
   rwa [Int.toNat_natCast] at this
  have : (execOp a.eval ⟨dd, .binOp .shr t x y t', ty, pos, af, g⟩).run P W = .ok (.value (.int .i64 (m / 2 ^ n))) W := by
   simp [execOp, ha.eval hx, ha.eval hy, eqGuard, binOp, hs, Sem.run, pure, bind, Sem.bind]
  rw [this, hr]⟩
theorem v_andA {m n r : Int} (hx : evOp env x = some (.int .i64 m)) (hy : evOp env y = some (.int .i64 n)) (hr : bits .and .i64 m n = r) : OpVal P N c env mem ⟨dd, .binOp .and t x y t', ty, pos, af, g⟩ (.int .i64 r) :=
 ⟨rfl, fun a W ha _ => by
  have : (execOp a.eval ⟨dd, .binOp .and t x y t', ty, pos, af, g⟩).run P W = .ok (.value (.int .i64 (bits .and .i64 m n))) W := by
   simp only [execOp, ha.eval hx, ha.eval hy, eqGuard, binOp]; rfl
  rw [this, hr]⟩
theorem v_orA {m n r : Int} (hx : evOp env x = some (.int .i64 m)) (hy : evOp env y = some (.int .i64 n)) (hr : bits .or .i64 m n = r) : OpVal P N c env mem ⟨dd, .binOp .or t x y t', ty, pos, af, g⟩ (.int .i64 r) :=
 ⟨rfl, fun a W ha _ => by
  have : (execOp a.eval ⟨dd, .binOp .or t x y t', ty, pos, af, g⟩).run P W = .ok (.value (.int .i64 (bits .or .i64 m n))) W := by
   simp only [execOp, ha.eval hx, ha.eval hy, eqGuard, binOp]; rfl
  rw [this, hr]⟩
theorem wraps_i64 (n : Int) (h0 : 0 <= n) (h1 : n < 2 ^ 63) : IntKind.i64.wrap n = n := by rw [IntKind.wrap_i64]; omega
/-- the low bits of any number -/
theorem and_low (n : Int) (i : Nat) (hi : i <= 62) : bits .and .i64 n (2 ^ i - 1) = n % 2 ^ i := by
 have hpos : 0 < 2 ^ i := Nat.two_pow_pos i
 have hc : ((2 : Int) ^ i - 1) = ((2 ^ i - 1 : Nat) : Int) := by rw [Int.natCast_sub hpos]; simp
 have hle : 2 ^ i <= 2 ^ 62 := Nat.pow_le_pow_right (by decide) hi
 have hm : (BitVec.ofInt 64 ((2 : Int) ^ i - 1)).toNat = 2 ^ i - 1 := by
  rw [hc, BitVec.ofInt_natCast, BitVec.toNat_ofNat]
  exact Nat.mod_eq_of_lt (by omega)
 have key : (BitVec.ofInt 64 n &&& BitVec.ofInt 64 ((2 : Int) ^ i - 1)).toNat = (n % ((2 ^ 64 : Nat) : Int)).toNat % 2 ^ i := by
  rw [BitVec.toNat_and, BitVec.toNat_ofInt, hm, Nat.and_two_pow_sub_one_eq_mod]
 show IntKind.i64.wrap ((BitVec.ofInt 64 n &&& BitVec.ofInt 64 ((2 : Int) ^ i - 1)).toNat : Nat) = n % 2 ^ i
 rw [key]
 have h1 : (((n % ((2 ^ 64 : Nat) : Int)).toNat % 2 ^ i : Nat) : Int) = n % 2 ^ i := by
  have hn := Int.emod_nonneg n (show ((2 ^ 64 : Nat) : Int) ≠ 0 by decide)
  rw [Int.natCast_emod, Int.toNat_of_nonneg hn]
  have hd : (((2 ^ i : Nat) : Int)) ∣ ((2 ^ 64 : Nat) : Int) := by
   refine Int.natCast_dvd_natCast.2 ?_
   exact Nat.pow_dvd_pow 2 (by omega)
  rw [Int.emod_emod_of_dvd _ hd]
  simp
 rw [h1]
 have hb : (2 : Int) ^ i <= 2 ^ 62 := by exact_mod_cast hle
 have hp : (0 : Int) < 2 ^ i := by exact_mod_cast hpos
 have h2 := Int.emod_nonneg n (show (2 : Int) ^ i ≠ 0 by omega)
 have h3 := Int.emod_lt_of_pos n hp
 have h4 : (2 : Int) ^ 62 < 2 ^ 63 := by decide
 exact wraps_i64 _ h2 (by omega)
/-- a digit behind others -/
theorem or_join (x y : Int) (i : Nat) (hx : 0 <= x) (hy : 0 <= y) (hy1 : y < 2 ^ i) (h : x * 2 ^ i < 2 ^ 63) (h2 : (2 : Int) ^ i <= 2 ^ 62) : bits .or .i64 (x * 2 ^ i) y = x * 2 ^ i + y := by
 have hp : (0 : Int) < 2 ^ i := by
  have : 0 < 2 ^ i := Nat.two_pow_pos i
  exact_mod_cast this
 have h4 : (2 : Int) ^ 62 < 2 ^ 63 := by decide
 exact bits_join .i64 63 (by decide) wraps_i64 i _ y (Int.mul_nonneg hx (by omega)) (Int.mul_emod_left _ _) h hy hy1 (by omega)

/-! ## Calls that keep a word -/
theorem q_callJ [Wide c.F] {f : FuncId} [Ent P f] {d : Nat} {args : List Operand} {ats : Array TypeId} {vs : List Value} {v : Value} (hw : wantB L env g = some true) (hd : Nat.blt d N = true) (ha : evOps env args some = some vs)
  (hc : ∀ W, SatW c.w0 c.D c.J mem W -> Calls P f ⟨vs⟩ W fun e W' => e = .returned v /\ SatW c.w0 c.D c.J mem W')
  (k : RunQ P N c L l Q ((d, v) :: env) mem) : RunQ P N c L (⟨some d, .call ⟨.value (.func f), ⟨args⟩, ats⟩, ty, pos, af, g⟩ :: l) Q env mem :=
 q_run (v := v) hw (fun a hA W hm => by
  have h1 := hA.evals ha
  simp only [Option.some.injEq] at h1
  unfold Oper.quietAt
  rw [p_call, h1]
  exact ⟨rfl, (hc W hm).mono fun _ W' ⟨h2, h3⟩ => ⟨h2, h3⟩⟩) (fun a hA => k.run _ (hA.put hd v))
theorem q_callvJ [Wide c.F] {f : FuncId} [Ent P f] {d : Nat} {args : List Operand} {ats : Array TypeId} {vs fs cs ws : List Value} {v : Value} (hw : wantB L env g = some true) (hd : Nat.blt d N = true)
  (hx : evOp env x = some (.func (.func f) ⟨fs⟩ ⟨cs⟩)) (ha : evOps env args some = some vs) (hws : fs ++ vs ++ cs = ws)
  (hc : ∀ W, SatW c.w0 c.D c.J mem W -> Calls P f ⟨ws⟩ W fun e W' => e = .returned v /\ SatW c.w0 c.D c.J mem W')
  (k : RunQ P N c L l Q ((d, v) :: env) mem) : RunQ P N c L (⟨some d, .call ⟨.value x, ⟨args⟩, ats⟩, ty, pos, af, g⟩ :: l) Q env mem :=
 q_run (v := v) hw (fun a hA W hm => by
  subst hws
  have h1 := hA.evals ha
  simp only [Option.some.injEq] at h1
  unfold Oper.quietAt
  rw [p_callv (hA.eval hx), h1]
  exact ⟨rfl, (hc W hm).mono fun _ W' ⟨h2, h3⟩ => ⟨h2, h3⟩⟩) (fun a hA => k.run _ (hA.put hd v))
/-- a call of a closure that writes one block -/
theorem r_callvu [Wide c.F] {f : FuncId} [Ent P f] {d : Nat} {args : List Operand} {ats : Array TypeId} {vs fs cs ws : List Value} {v : Value} {b : Nat} {o o' : Obj} {mem' : List (Nat × Obj)} (hw : wantB L env g = some true) (hd : Nat.blt d N = true)
  (hx : evOp env x = some (.func (.func f) ⟨fs⟩ ⟨cs⟩)) (ha : evOps env args some = some vs) (hws : fs ++ vs ++ cs = ws) (hu : Upd mem b o o' mem')
  (hc : ∀ W, SatW c.w0 c.D c.J mem W -> W.heap[b]? = some o -> Calls P f ⟨ws⟩ W fun e W' => e = .returned v /\ Same (fun k => k ≠ b) W W' /\ W'.heap[b]? = some o') (hin : (b, o) ∈ mem)
  (k : RunL P N c L l Q ((d, v) :: env) mem') : RunL P N c L (⟨some d, .call ⟨.value x, ⟨args⟩, ats⟩, ty, pos, af, g⟩ :: l) Q env mem :=
 l_callv (ι := Unit) (v := fun _ => v) (mem' := fun _ => mem') hw hd hx ha hws (fun W hm => (hc W hm (hm.own _ hin).2).mono fun _ W' ⟨h1, h2, h3⟩ => ⟨(), h1, hm.upd hu h2 h3⟩) fun _ => k
end
end Kin
end Go

namespace Go.Kin.Cl

/-- the code of a reading that is lost -/
def lostR : Int := 8589934592
/-- the cost of a pair -/
def bes (x y : Int) : Int := if x ≠ y /\ x ≠ lostR /\ y ≠ lostR then 3 else 0
theorem bes_bd (x y : Int) : 0 <= bes x y /\ bes x y <= 3 := by unfold bes; split <;> omega
theorem bes_self (x : Int) : bes x x = 0 := by unfold bes; rw [if_neg (by simp)]
/-- what an alignment does next: a pair, a code of the first list alone, one of the second list alone -/
inductive Mv where
 | both
 | left
 | right
deriving DecidableEq
/-- an alignment of two lists, with its cost -/
inductive Al : List Int -> List Int -> List Mv -> Int -> Prop where
 | nil : Al [] [] [] 0
 | both {x y a b m c} : Al a b m c -> Al (x :: a) (y :: b) (.both :: m) (bes x y + c)
 | left {x a b m c} : Al a b m c -> Al (x :: a) b (.left :: m) (2 + c)
 | right {y a b m c} : Al a b m c -> Al a (y :: b) (.right :: m) (2 + c)
/-- the least cost -/
def ac : List Int -> List Int -> Int
 | [], b => 2 * b.length
 | x :: a, [] => 2 * (x :: a).length
 | x :: a, y :: b => min (min (bes x y + ac a b) (2 + ac a (y :: b))) (2 + ac (x :: a) b)
termination_by a b => a.length + b.length
theorem ac_nil_left (b : List Int) : ac [] b = 2 * b.length := by unfold ac; rfl
theorem ac_nil_right (a : List Int) : ac a [] = 2 * a.length := by
 cases a with
 | nil => rw [ac_nil_left]
 | cons x a => unfold ac; rfl
theorem ac_cons (x y : Int) (a b : List Int) : ac (x :: a) (y :: b) = min (min (bes x y + ac a b) (2 + ac a (y :: b))) (2 + ac (x :: a) b) := by
 rw [ac]
theorem ac_nonneg : ∀ (n : Nat) (a b : List Int), a.length + b.length <= n -> 0 <= ac a b /\ ac a b <= 2 * (a.length + b.length)
 | 0, a, b, h => by
  obtain rfl : a = [] := List.eq_nil_of_length_eq_zero (by omega)
  rw [ac_nil_left]; simp only [List.length_nil]; constructor <;> omega
 | n + 1, [], b, h => by rw [ac_nil_left]; simp only [List.length_nil]; omega
 | n + 1, x :: a, [], h => by rw [ac_nil_right]; simp only [List.length_nil]; omega
 | n + 1, x :: a, y :: b, h => by
  simp only [List.length_cons] at h ⊢
  rw [ac_cons]
  have h1 := ac_nonneg n a b (by omega)
  have h2 := ac_nonneg n a (y :: b) (by simp only [List.length_cons]; omega)
  have h3 := ac_nonneg n (x :: a) b (by simp only [List.length_cons]; omega)
  have h4 := bes_bd x y
  simp only [List.length_cons] at h2 h3
  omega
theorem ac_bd (a b : List Int) : 0 <= ac a b /\ ac a b <= 2 * (a.length + b.length) := ac_nonneg _ a b (Nat.le_refl _)
/-- no alignment costs less -/
theorem Al.le {a b : List Int} {m : List Mv} {c : Int} (h : Al a b m c) : ac a b <= c := by
 induction h with
 | nil => rw [ac_nil_left]; simp
 | @both x y a b m c h ih => rw [ac_cons]; omega
 | @left x a b m c h ih =>
  cases b with
  | nil => rw [ac_nil_right] at ih ⊢; simp only [List.length_cons] at ih ⊢; omega
  | cons y b => rw [ac_cons]; omega
 | @right y a b m c h ih =>
  cases a with
  | nil => rw [ac_nil_left] at ih ⊢; simp only [List.length_cons] at ih ⊢; omega
  | cons x a => rw [ac_cons]; omega
/-- the alignment that comes first of those that cost least -/
def best : List Int -> List Int -> List Mv
 | [], b => b.map fun _ => .right
 | x :: a, [] => (x :: a).map fun _ => .left
 | x :: a, y :: b => if ac (x :: a) (y :: b) = bes x y + ac a b then .both :: best a b else if ac (x :: a) (y :: b) = 2 + ac a (y :: b) then .left :: best a (y :: b) else .right :: best (x :: a) b
termination_by a b => a.length + b.length
theorem best_nil_left (b : List Int) : best [] b = b.map fun _ => .right := by unfold best; rfl
theorem best_nil_right (a : List Int) : best a [] = a.map fun _ => .left := by
 cases a with
 | nil => rw [best_nil_left]; rfl
 | cons x a => unfold best; rfl
theorem best_cons (x y : Int) (a b : List Int) : best (x :: a) (y :: b) = if ac (x :: a) (y :: b) = bes x y + ac a b then .both :: best a b else if ac (x :: a) (y :: b) = 2 + ac a (y :: b) then .left :: best a (y :: b) else .right :: best (x :: a) b := by
 rw [best]
theorem al_rights : ∀ b : List Int, Al [] b (b.map fun _ => .right) (2 * b.length)
 | [] => .nil
 | y :: b => by
  have := Al.right (y := y) (al_rights b)
  simp only [List.map_cons, List.length_cons]
  rw [show (2 * ((b.length + 1 : Nat) : Int)) = 2 + 2 * b.length by omega]; exact this
theorem al_lefts : ∀ a : List Int, Al a [] (a.map fun _ => .left) (2 * a.length)
 | [] => .nil
 | x :: a => by
  have := Al.left (x := x) (al_lefts a)
  simp only [List.map_cons, List.length_cons]
  rw [show (2 * ((a.length + 1 : Nat) : Int)) = 2 + 2 * a.length by omega]; exact this
theorem best_alN : ∀ (n : Nat) (a b : List Int), a.length + b.length <= n -> Al a b (best a b) (ac a b)
 | n, [], b, _ => by rw [best_nil_left, ac_nil_left]; exact al_rights b
 | n, x :: a, [], _ => by rw [best_nil_right, ac_nil_right]; exact al_lefts _
 | 0, x :: a, y :: b, h => by simp at h
 | n + 1, x :: a, y :: b, h => by
  simp only [List.length_cons] at h
  rw [best_cons]
  by_cases h1 : ac (x :: a) (y :: b) = bes x y + ac a b
  ·rw [if_pos h1, h1]; exact .both (best_alN n a b (by omega))
  ·rw [if_neg h1]
   by_cases h2 : ac (x :: a) (y :: b) = 2 + ac a (y :: b)
   ·rw [if_pos h2, h2]; exact .left (best_alN n a (y :: b) (by simp only [List.length_cons]; omega))
   ·rw [if_neg h2]
    have h3 : ac (x :: a) (y :: b) = 2 + ac (x :: a) b := by rw [ac_cons] at h1 h2 ⊢; omega
    rw [h3]; exact .right (best_alN n (x :: a) b (by simp only [List.length_cons]; omega))
theorem best_al (a b : List Int) : Al a b (best a b) (ac a b) := best_alN _ a b (Nat.le_refl _)

/-! ## What comes first -/
/-! ## A metric -/
def swap : Mv -> Mv
 | .both => .both
 | .left => .right
 | .right => .left
theorem ac_self : ∀ a : List Int, ac a a = 0
 | [] => by rw [ac_nil_left]; rfl
 | x :: a => by
  have h := ac_self a
  have h1 : ac (x :: a) (x :: a) <= bes x x + ac a a := (Al.both (best_al a a)).le
  have h2 := (ac_bd (x :: a) (x :: a)).1
  rw [bes_self] at h1
  omega
/-! ## Common beginnings and ends -/
end Go.Kin.Cl

namespace Go.Kin.Cl

/-- the pairs of an alignment, from two places on -/
def prs : List Mv -> Nat -> Nat -> List (Int × Int)
 | [], _, _ => []
 | .both :: m, i, k => ((i : Int) + 1, (k : Int) + 1) :: prs m (i + 1) (k + 1)
 | .left :: m, i, k => ((i : Int) + 1, 0) :: prs m (i + 1) k
 | .right :: m, i, k => (0, (k : Int) + 1) :: prs m i (k + 1)
/-! ## What pairs cost -/
def badP (a b : List Int) (x : Int × Int) (i k : Nat) : Prop := x.1 < 0 ∨ x.2 < 0 ∨ (0 < x.1 /\ x.1 ≠ i + 1) ∨ (0 < x.2 /\ x.2 ≠ k + 1) ∨ (a.length : Int) < x.1 ∨ (b.length : Int) < x.2
instance (a b : List Int) (x : Int × Int) (i k : Nat) : Decidable (badP a b x i k) := by unfold badP; infer_instance
theorem drop_at {l : List Int} {i : Nat} (h : i < l.length) : l.drop i = l.getD i 0 :: l.drop (i + 1) := by
 rw [List.drop_eq_getElem_cons h, List.getD_eq_getElem?_getD, List.getElem?_eq_getElem h]; rfl
theorem drop_uncons {l : List Int} {i : Nat} {x : Int} {r : List Int} (h : x :: r = l.drop i) : i < l.length /\ x = l.getD i 0 /\ r = l.drop (i + 1) := by
 have hi : i < l.length := by
  rcases Nat.lt_or_ge i l.length with h' | h'
  ·exact h'
  ·rw [List.drop_eq_nil_of_le h'] at h; cases h
 rw [drop_at hi] at h
 cases h
 exact ⟨hi, rfl, rfl⟩
end Go.Kin.Cl

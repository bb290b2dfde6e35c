/- Alignments of two lists of codes, and their costs. Plain Lean. -/
import Derived.Test.YtajnkdgbpffinaaGreatTy
import Derived.Test.YtajnkdgbpffinaaGreatEng22
set_option linter.unusedSectionVars false
set_option linter.unusedVariables false
set_option linter.unusedSimpArgs false
namespace Go.Kin.Cl

/-- the code of a reading that is lost -/
def lostR : Int := 8589934592
/-- the cost of a pair -/
def bes (x y : Int) : Int := if x ≠ y /\ x ≠ lostR /\ y ≠ lostR then 3 else 0
theorem bes_bd (x y : Int) : 0 <= bes x y /\ bes x y <= 3 := by unfold bes; split <;> omega
theorem bes_self (x : Int) : bes x x = 0 := by unfold bes; rw [if_neg (by simp)]
/-- what an alignment does next: a pair, a code of the first list alone, one of the second list alone -/
inductive Mv where
 | both
 | left
 | right
deriving DecidableEq
/-- an alignment of two lists, with its cost -/
inductive Al : List Int -> List Int -> List Mv -> Int -> Prop where
 | nil : Al [] [] [] 0
 | both {x y a b m c} : Al a b m c -> Al (x :: a) (y :: b) (.both :: m) (bes x y + c)
 | left {x a b m c} : Al a b m c -> Al (x :: a) b (.left :: m) (2 + c)
 | right {y a b m c} : Al a b m c -> Al a (y :: b) (.right :: m) (2 + c)
/-- the least cost -/
def ac : List Int -> List Int -> Int
 | [], b => 2 * b.length
 | x :: a, [] => 2 * (x :: a).length
 | x :: a, y :: b => min (min (bes x y + ac a b) (2 + ac a (y :: b))) (2 + ac (x :: a) b)
termination_by a b => a.length + b.length
theorem ac_nil_left (b : List Int) : ac [] b = 2 * b.length := by unfold ac; rfl
theorem ac_nil_right (a : List Int) : ac a [] = 2 * a.length := by
 cases a with
 | nil => rw [ac_nil_left]
 | cons x a => unfold ac; rfl
theorem ac_cons (x y : Int) (a b : List Int) : ac (x :: a) (y :: b) = min (min (bes x y + ac a b) (2 + ac a (y :: b))) (2 + ac (x :: a) b) := by
 rw [ac]
theorem ac_nonneg : ∀ (n : Nat) (a b : List Int), a.length + b.length <= n -> 0 <= ac a b /\ ac a b <= 2 * (a.length + b.length)
 | 0, a, b, h => by
  obtain rfl : a = [] := List.eq_nil_of_length_eq_zero (by omega)
  rw [ac_nil_left]; simp only [List.length_nil]; constructor <;> omega
 | n + 1, [], b, h => by rw [ac_nil_left]; simp only [List.length_nil]; omega
 | n + 1, x :: a, [], h => by rw [ac_nil_right]; simp only [List.length_nil]; omega
 | n + 1, x :: a, y :: b, h => by
  simp only [List.length_cons] at h ⊢
  rw [ac_cons]
  have h1 := ac_nonneg n a b (by omega)
  have h2 := ac_nonneg n a (y :: b) (by simp only [List.length_cons]; omega)
  have h3 := ac_nonneg n (x :: a) b (by simp only [List.length_cons]; omega)
  have h4 := bes_bd x y
  simp only [List.length_cons] at h2 h3
  omega
theorem ac_bd (a b : List Int) : 0 <= ac a b /\ ac a b <= 2 * (a.length + b.length) := ac_nonneg _ a b (Nat.le_refl _)
/-- the alignment that comes first of those that cost least -/
def best : List Int -> List Int -> List Mv
 | [], b => b.map fun _ => .right
 | x :: a, [] => (x :: a).map fun _ => .left
 | x :: a, y :: b => if ac (x :: a) (y :: b) = bes x y + ac a b then .both :: best a b else if ac (x :: a) (y :: b) = 2 + ac a (y :: b) then .left :: best a (y :: b) else .right :: best (x :: a) b
termination_by a b => a.length + b.length
theorem best_nil_left (b : List Int) : best [] b = b.map fun _ => .right := by unfold best; rfl
theorem best_nil_right (a : List Int) : best a [] = a.map fun _ => .left := by
 cases a with
 | nil => rw [best_nil_left]; rfl
 | cons x a => unfold best; rfl
theorem best_cons (x y : Int) (a b : List Int) : best (x :: a) (y :: b) = if ac (x :: a) (y :: b) = bes x y + ac a b then .both :: best a b else if ac (x :: a) (y :: b) = 2 + ac a (y :: b) then .left :: best a (y :: b) else .right :: best (x :: a) b := by
 rw [best]
/-! ## What comes first -/
/-! ## A metric -/
def swap : Mv -> Mv
 | .both => .both
 | .left => .right
 | .right => .left
/-! ## Common beginnings and ends -/
end Go.Kin.Cl

namespace Go.Kin.Cl

/-- the pairs of an alignment, from two places on -/
def prs : List Mv -> Nat -> Nat -> List (Int × Int)
 | [], _, _ => []
 | .both :: m, i, k => ((i : Int) + 1, (k : Int) + 1) :: prs m (i + 1) (k + 1)
 | .left :: m, i, k => ((i : Int) + 1, 0) :: prs m (i + 1) k
 | .right :: m, i, k => (0, (k : Int) + 1) :: prs m i (k + 1)
/-! ## What pairs cost -/
def badP (a b : List Int) (x : Int × Int) (i k : Nat) : Prop := x.1 < 0 ∨ x.2 < 0 ∨ (0 < x.1 /\ x.1 ≠ i + 1) ∨ (0 < x.2 /\ x.2 ≠ k + 1) ∨ (a.length : Int) < x.1 ∨ (b.length : Int) < x.2
instance (a b : List Int) (x : Int × Int) (i k : Nat) : Decidable (badP a b x i k) := by unfold badP; infer_instance
end Go.Kin.Cl

set_option maxRecDepth 100000
set_option maxHeartbeats 400000000
namespace Go.Proofs
open Go.RowKit Go.Kin Go.Kin.Cl
namespace R41
def inE (x : Int) : List Value := [.int .i64 x]
theorem ext_at {w : World} {A : Option Addr} {sz : Nat} {α : Type} {f : α -> List Value} {l : List α} (hA : Kin.At w A sz (l.map f)) {i : Nat} {x : α} (hx : l[i]? = some x) : ∃ b o, A = some ⟨b, o, none⟩ /\ ∀ j v, (f x)[j]? = some v -> w.cell? ⟨b, o + i * sz + j, none⟩ = some v :=
 hA i (f x) (by simp [hx])
theorem ewithin_calls (n lo hi : Int) (w : World) : Calls Tryz.prog 71 ⟨[.int .i64 n, .int .i64 lo, .int .i64 hi]⟩ w fun e w' => e = .returned (.bool (decide (lo <= n /\ n <= hi))) /\ Under w.heap.size w w' := by
 refine fEn Tryz.func71 rfl Tryz.ntmps71 rfl rfl (sWn w) ?_
 repeat' (first|refine lVa rfl rfl (by first|exact pEv rfl|fail) ?_|refine lNi ?_|refine cRg ?_|refine cSq ?_|refine xTh ?_|refine l_skip rfl rfl ?_|refine c_ret ?_|refine l_dec rfl rfl rfl rfl rfl (fun _ => ?_) (fun _ => ?_)|fail)
 ·refine x_ret rfl rfl (by repeat constructor) rfl (fun W hW => ⟨?_, hW.below⟩)
  simp_all <;> omega
 ·refine x_ret rfl rfl (by repeat constructor) rfl (fun W hW => ⟨?_, hW.below⟩)
  simp_all <;> omega

theorem bes_eq {x y : Int} (h : x = y) : bes x y = 0 := by unfold bes; rw [if_neg (fun g => g.1 h)]
theorem bes_x {x y : Int} (h : x = 8589934592) : bes x y = 0 := by unfold bes; rw [if_neg (fun g => g.2.1 h)]
theorem bes_y {x y : Int} (h : y = 8589934592) : bes x y = 0 := by unfold bes; rw [if_neg (fun g => g.2.2 h)]
theorem bes_ne {x y : Int} (h1 : ¬ x = y) (h2 : ¬ x = 8589934592) (h3 : ¬ y = 8589934592) : bes x y = 3 := by unfold bes; rw [if_pos ⟨h1, h2, h3⟩]
theorem beside_calls (x y : Int) (w : World) : Calls Tryz.prog 31 ⟨[.int .i64 x, .int .i64 y]⟩ w fun e w' => e = .returned (.int .i64 (bes x y)) /\ Under w.heap.size w w' := by
 refine fEn Tryz.func31 rfl Tryz.ntmps31 rfl rfl (sWn w) ?_
 by_cases h1 : x = y
 ·repeat (first|refine lVa rfl rfl (by first|exact pEv rfl|fail) ?_|refine lNi ?_|refine cRg ?_|refine cSq ?_|refine xTh ?_|refine l_skip rfl rfl ?_|refine c_false rfl ?_|refine cSk ?_|refine c_ret ?_|refine l_dec_f rfl rfl rfl rfl rfl (by first|omega|fail) ?_|fail)
  exact x_ret rfl rfl (by repeat constructor) rfl (fun W hW => ⟨by rw [bes_eq h1], hW.below⟩)
 by_cases h2 : x = 8589934592
 ·repeat (first|refine lVa rfl rfl (by first|exact pEv rfl|fail) ?_|refine lNi ?_|refine cRg ?_|refine cSq ?_|refine xTh ?_|refine l_skip rfl rfl ?_|refine c_false rfl ?_|refine cSk ?_|refine c_ret ?_|refine l_dec_t rfl rfl rfl rfl rfl (by first|omega|fail) ?_|refine l_dec_f rfl rfl rfl rfl rfl (by first|omega|fail) ?_|fail)
  exact x_ret rfl rfl (by repeat constructor) rfl (fun W hW => ⟨by rw [bes_x h2], hW.below⟩)
 by_cases h3 : y = 8589934592
 ·repeat (first|refine lVa rfl rfl (by first|exact pEv rfl|fail) ?_|refine lNi ?_|refine cRg ?_|refine cSq ?_|refine xTh ?_|refine c_dec_f rfl (by first|omega|fail) ?_|refine cSk ?_|refine c_ret ?_|refine l_dec_t rfl rfl rfl rfl rfl (by first|omega|fail) ?_|fail)
  exact x_ret rfl rfl (by repeat constructor) rfl (fun W hW => ⟨by rw [bes_y h3], hW.below⟩)
 repeat (first|refine lVa rfl rfl (by first|exact pEv rfl|fail) ?_|refine lNi ?_|refine cRg ?_|refine cSq ?_|refine xTh ?_|refine c_dec_t rfl (by first|omega|fail) ?_|refine c_ret ?_|refine xTr ?_|refine l_dec_t rfl rfl rfl rfl rfl (by first|omega|fail) ?_|fail)
 exact x_ret rfl rfl (by repeat constructor) rfl (fun W hW => ⟨by rw [bes_ne h1 h2 h3], hW.below⟩)


/-! ## Digits -/
structure Dg where
 n : Int
 lo : Int
 hi : Int
 bits : Nat
def dgE (d : Dg) : List Value := [.int .i64 d.n, .int .i64 d.lo, .int .i64 d.hi, .int .i64 d.bits]
def Dg.fit (d : Dg) : Bool := decide (d.lo <= d.n /\ d.n <= d.hi)
def pv (ds : List Dg) : Int := ds.foldl (fun c d => c * 2 ^ d.bits + d.n) 0
def Fine (d : Dg) : Prop := 0 <= d.lo /\ d.hi < 2 ^ d.bits /\ d.bits <= 8
theorem pow_small {k : Nat} (h : k <= 8) : (1 : Int) <= 2 ^ k /\ (2 : Int) ^ k <= 256 := by
 have h1 : ((2 ^ k : Nat) : Int) <= ((2 ^ 8 : Nat) : Int) := Int.ofNat_le.2 (Nat.pow_le_pow_right (by decide) h)
 have h2 : ((1 : Nat) : Int) <= ((2 ^ k : Nat) : Int) := Int.ofNat_le.2 (Nat.two_pow_pos k)
 rw [Int.natCast_pow] at h1 h2
 exact ⟨h2, h1⟩
theorem digit_bd {c n A B : Int} (h0 : 0 <= c) (h1 : c < A) (h2 : 0 <= n) (h3 : n < B) (hB : 1 <= B) : 0 <= c * B /\ c * B + n < A * B := by
 have e1 := Int.mul_nonneg h0 (show 0 <= B by omega)
 have e2 := Int.mul_le_mul_of_nonneg_right (show c + 1 <= A by omega) (show 0 <= B by omega)
 rw [Int.add_mul, Int.one_mul] at e2
 omega
theorem pv_snoc (l : List Dg) (d : Dg) : pv (l ++ [d]) = pv l * 2 ^ d.bits + d.n := by unfold pv; rw [List.foldl_append]; rfl
theorem pow256 {a b : Nat} (h : a <= b) : (256 : Int) ^ a <= 256 ^ b := by
 have h1 : ((256 ^ a : Nat) : Int) <= ((256 ^ b : Nat) : Int) := Int.ofNat_le.2 (Nat.pow_le_pow_right (by decide) h)
 rw [Int.natCast_pow, Int.natCast_pow] at h1
 exact h1
theorem pvf_bd : ∀ (l : List Dg) (c : Int) (m : Nat), (∀ d ∈ l, Fine d) -> l.all Dg.fit = true -> 0 <= c -> c < 256 ^ m -> 0 <= l.foldl (fun c d => c * 2 ^ d.bits + d.n) c /\ l.foldl (fun c d => c * 2 ^ d.bits + d.n) c < 256 ^ (m + l.length)
 | [], c, m, _, _, h0, h1 => ⟨h0, h1⟩
 | d :: l, c, m, hF, hf, h0, h1 => by
  rw [List.all_cons, Bool.and_eq_true] at hf
  obtain ⟨f1, f2, f3⟩ := hF d List.mem_cons_self
  have hfit : d.lo <= d.n /\ d.n <= d.hi := of_decide_eq_true hf.1
  obtain ⟨p1, p2⟩ := pow_small f3
  obtain ⟨e1, e2⟩ := digit_bd h0 h1 (show 0 <= d.n by omega) (show d.n < 2 ^ d.bits by omega) p1
  have h3 : c * 2 ^ d.bits + d.n < 256 ^ (m + 1) := by
   rw [Int.pow_succ]
   exact Int.lt_of_lt_of_le e2 (Int.mul_le_mul_of_nonneg_left p2 (by omega))
  have h4 := pvf_bd l (c * 2 ^ d.bits + d.n) (m + 1) (fun e he => hF e (List.mem_cons_of_mem _ he)) hf.2 (by omega) h3
  rw [show m + 1 + l.length = m + (d :: l).length by simp only [List.length_cons]; omega] at h4
  exact h4
theorem pv_small {l : List Dg} (hF : ∀ d ∈ l, Fine d) (hf : l.all Dg.fit = true) (hl : l.length <= 6) : 0 <= pv l /\ pv l < 281474976710656 := by
 obtain ⟨h1, h2⟩ := pvf_bd l 0 0 hF hf (by decide) (by decide)
 rw [Nat.zero_add] at h2
 have h3 := pow256 hl
 have h4 : (256 : Int) ^ 6 = 281474976710656 := by decide
 exact ⟨h1, by rw [<- h4]; exact Int.lt_of_lt_of_le h2 h3⟩

theorem pack_calls (A : Option Addr) (cap : Nat) (ds : List Dg) (w : World) (hl : ds.length <= 7) (hF : ∀ d ∈ ds, Fine d) (hA : Kin.At w A 4 (ds.map dgE)) :
  Calls Tryz.prog 49 ⟨[.slice A ds.length cap]⟩ w fun e w' => e = .returned (.tuple ⟨[.int .i64 (if ds.all Dg.fit = true then pv ds else 0), .bool (ds.all Dg.fit)]⟩) /\ Under w.heap.size w w' := by
 refine fEn Tryz.func49 rfl Tryz.ntmps49 rfl rfl (sWn w) ?_
 repeat (first|refine lVa rfl rfl (by first|exact pEv rfl|fail) ?_|refine lNi ?_|refine cRg ?_|refine cSq ?_|refine xTh ?_|refine cBl ?_|fail)
 refine c_loop (ι := Nat) (fun k => k <= ds.length /\ (Unit -> (ds.take k).all Dg.fit = true)) (fun k => [(2, .int .i64 (pv (ds.take k))), (3, .bool false), (6, .slice A ds.length cap), (7, .int .i64 ds.length), (8, .int .i64 k)]) (fun _ => []) (fun k => ds.length - k) 0 ⟨by omega, fun _ => rfl⟩ (by repeat (first|exact .nil|refine .cons rfl (by first|rfl|(congr 1; done)|exact congrArg _ (by omega)|(simp; done)) ?_)) (by repeat (first|exact .nil|refine .keep (by first|rfl|assumption) ?_|refine .drop ?_|exact MSub.refl _)) ?_
 rintro k ⟨hk, hf⟩
 by_cases hlt : k < ds.length
 ·obtain ⟨d, hd⟩ : ∃ d, ds[k]? = some d := ⟨_, List.getElem?_eq_getElem hlt⟩
  obtain ⟨b, o, rfl, hc⟩ := ext_at hA hd
  have he := ext_of hc
  unfold dgE at he
  obtain ⟨f1, f2, f3⟩ := hF d (List.mem_of_getElem? hd)
  obtain ⟨p1, p2⟩ := pow_small f3
  have ht : ds.take (k + 1) = ds.take k ++ [d] := by rw [List.take_add_one, hd]; rfl
  obtain ⟨c1, c2⟩ := pv_small (fun e he => hF e (List.mem_of_mem_take he)) (hf ()) (show (ds.take k).length <= 6 by rw [List.length_take]; omega)
  have hn : pv (ds.take (k + 1)) = pv (ds.take k) * 2 ^ d.bits + d.n := by rw [ht, pv_snoc]
  have hall : (ds.take (k + 1)).all Dg.fit = d.fit := by rw [ht, List.all_append, hf ()]; simp
  by_cases g1 : d.lo <= d.n
  ·by_cases g2 : d.n <= d.hi
   ·have hfit : d.fit = true := decide_eq_true ⟨g1, g2⟩
    obtain ⟨e1, e2⟩ := digit_bd c1 c2 (show 0 <= d.n by omega) (show d.n < 2 ^ d.bits by omega) p1
    have hA2 : (281474976710656 : Int) * 2 ^ d.bits <= 281474976710656 * 256 := Int.mul_le_mul_of_nonneg_left p2 (by omega)
    have s1 : IntKind.i64.wrap (pv (ds.take k) * 2 ^ d.bits) = pv (ds.take k) * 2 ^ d.bits := wrap_i64 (by omega) (by omega)
    have s2 : bits .or .i64 (pv (ds.take k) * 2 ^ d.bits) d.n = pv (ds.take (k + 1)) := by
     rw [hn]
     exact or_join _ _ _ c1 (by omega) (by omega) (by omega) (by omega)
    have hf' := fun (_ : Unit) => hall.trans hfit
    clear hall hn ht
    repeat (first|refine lVa rfl rfl (by first|exact v_add rfl rfl (by omega) (by omega)|exact pEv rfl|exact vLd rfl (by repeat constructor) rfl (by rfl)|exact vL0 rfl (by assumption) rfl (by rfl)|exact v_index rfl rfl rfl rfl (by omega) (by omega) (by with_reducible first|exact idx4 _ _ _|fail)|fail) ?_|refine lNi ?_|refine cRg ?_|refine cSq ?_|refine xTh ?_|refine r_alloc rfl rfl rfl (by first|exact aggL|fail) (fun _ => ?_)|refine rSt rfl rfl rfl rfl rfl rfl rfl (by repeat constructor) (by rfl) ?_|refine c_dec_t rfl (by first|omega|fail) ?_|refine c_dec_f rfl (by first|omega|exact fun h => h rfl|fail) ?_|refine cBl ?_|refine cSk ?_|refine x_block ?_|refine l_dec_f rfl rfl rfl rfl rfl (by first|omega|fail) ?_|refine c_reads rfl (by decide +kernel) ?_|refine q_val rfl rfl (by first|exact pEv rfl|exact vLd rfl (by repeat constructor) rfl (by rfl)|fail) ?_|refine q_nil ?_|(refine q_val rfl rfl (v_shlA rfl rfl (by omega) (by assumption)) ?_)|(refine q_val rfl rfl (v_orA rfl rfl (by assumption)) ?_)|fail)
    exact x_back (k + 1) ⟨hlt, hf'⟩ (by omega) (by repeat (first|exact .nil|refine .cons rfl (by first|rfl|(congr 1; done)|exact congrArg _ (by omega)|(simp; done)) ?_)) (by repeat (first|exact .nil|refine .keep (by first|rfl|assumption) ?_|refine .drop ?_|exact MSub.refl _))
   ·have hno : ds.all Dg.fit = false := by
     rw [List.all_eq_false]; exact ⟨d, List.mem_of_getElem? hd, by rw [show d.fit = false from decide_eq_false (fun h => g2 h.2)]; decide⟩
    clear hall hn ht
    repeat (first|refine lVa rfl rfl (by first|exact pEv rfl|exact vLd rfl (by repeat constructor) rfl (by rfl)|exact vL0 rfl (by assumption) rfl (by rfl)|exact v_index rfl rfl rfl rfl (by omega) (by omega) (by with_reducible first|exact idx4 _ _ _|fail)|fail) ?_|refine lNi ?_|refine cRg ?_|refine cSq ?_|refine xTh ?_|refine r_alloc rfl rfl rfl (by first|exact aggL|fail) (fun _ => ?_)|refine rSt rfl rfl rfl rfl rfl rfl rfl (by repeat constructor) (by rfl) ?_|refine c_dec_t rfl (by first|omega|fail) ?_|refine cBl ?_|refine cSk ?_|refine c_ret ?_|refine xTr ?_|refine xBr ?_|refine l_dec_f rfl rfl rfl rfl rfl (by first|omega|fail) ?_|fail)
    exact x_ret rfl rfl (by repeat constructor) rfl (fun W hW => ⟨by rw [hno]; rfl, hW.below⟩)
  ·have hno : ds.all Dg.fit = false := by
    rw [List.all_eq_false]; exact ⟨d, List.mem_of_getElem? hd, by rw [show d.fit = false from decide_eq_false (fun h => g1 h.1)]; decide⟩
   clear hall hn ht
   repeat (first|refine lVa rfl rfl (by first|exact pEv rfl|exact vLd rfl (by repeat constructor) rfl (by rfl)|exact vL0 rfl (by assumption) rfl (by rfl)|exact v_index rfl rfl rfl rfl (by omega) (by omega) (by with_reducible first|exact idx4 _ _ _|fail)|fail) ?_|refine lNi ?_|refine cRg ?_|refine cSq ?_|refine xTh ?_|refine l_skip rfl rfl ?_|refine r_alloc rfl rfl rfl (by first|exact aggL|fail) (fun _ => ?_)|refine rSt rfl rfl rfl rfl rfl rfl rfl (by repeat constructor) (by rfl) ?_|refine c_true rfl ?_|refine c_dec_t rfl (by first|omega|fail) ?_|refine cBl ?_|refine cSk ?_|refine c_ret ?_|refine xTr ?_|refine xBr ?_|refine l_dec_t rfl rfl rfl rfl rfl (by first|omega|fail) ?_|fail)
   exact x_ret rfl rfl (by repeat constructor) rfl (fun W hW => ⟨by rw [hno]; rfl, hW.below⟩)
 ·have hkl : k = ds.length := by omega
  subst hkl
  have hyes := hf ()
  rw [List.take_length] at hyes ⊢
  repeat (first|refine lVa rfl rfl (by first|exact pEv rfl|fail) ?_|refine lNi ?_|refine cRg ?_|refine cSq ?_|refine xTh ?_|refine c_dec_f rfl (by first|omega|fail) ?_|refine c_ret ?_|refine c_exit ?_|refine xTe ?_|refine xBs ?_|fail)
  exact x_ret rfl rfl (by repeat constructor) rfl (fun W hW => ⟨by rw [hyes]; rfl, hW.below⟩)
end R41
end Go.Proofs

set_option maxRecDepth 100000
set_option maxHeartbeats 400000000
namespace Go.Proofs
open Go.RowKit Go.Kin Go.Kin.Cl
namespace R41
structure Sg where
 id : Int
 role : Int
 bar : Int
 mark : Int
 kind : Int
 side : Int
 dir : Int
 level : Int
 size : Int
 wth : Int
 fn : Int
 fd : Int
 tn : Int
 td : Int
deriving DecidableEq
@[reducible] def sgE (s : Sg) : List Value := [.int .i64 s.id, .int .i64 s.role, .int .i64 s.bar, .int .i64 s.mark, .int .i64 s.kind, .int .i64 s.side, .int .i64 s.dir, .int .i64 s.level, .int .i64 s.size, .int .i64 s.wth, .int .i64 s.fn, .int .i64 s.fd, .int .i64 s.tn, .int .i64 s.td]
def sg0 : Sg := ⟨0, 0, 0, 0, 0, 0, 0, 0, 0, 0, 0, 0, 0, 0⟩
def digs (s : Sg) : List Dg := [⟨s.role, 0, 63, 6⟩, ⟨s.kind, 1, 9, 4⟩, ⟨s.side, 0, 2, 2⟩, ⟨s.dir, 0, 8, 4⟩, ⟨s.level, 0, 3, 2⟩, ⟨s.size, 0, 255, 8⟩, ⟨s.wth, 0, 64, 7⟩]
def okS (s : Sg) : Bool := (digs s).all Dg.fit
def codeV (s : Sg) : Int := (((((s.role * 16 + s.kind) * 4 + s.side) * 16 + s.dir) * 4 + s.level) * 256 + s.size) * 128 + s.wth
theorem okS_iff {s : Sg} : okS s = true ↔ (0 <= s.role /\ s.role <= 63) /\ (1 <= s.kind /\ s.kind <= 9) /\ (0 <= s.side /\ s.side <= 2) /\ (0 <= s.dir /\ s.dir <= 8) /\ (0 <= s.level /\ s.level <= 3) /\ (0 <= s.size /\ s.size <= 255) /\ (0 <= s.wth /\ s.wth <= 64) := by
 simp [okS, digs, Dg.fit]
theorem pv_digs (s : Sg) : pv (digs s) = codeV s := by
 unfold pv digs codeV
 simp only [List.foldl_cons, List.foldl_nil]
 rw [show (2 : Int) ^ 6 = 64 by decide, show (2 : Int) ^ 4 = 16 by decide, show (2 : Int) ^ 2 = 4 by decide, show (2 : Int) ^ 8 = 256 by decide, show (2 : Int) ^ 7 = 128 by decide]
 omega
theorem digs_fine (s : Sg) : ∀ d ∈ digs s, Fine d := by
 intro d hd
 simp only [digs, List.mem_cons, List.not_mem_nil, or_false] at hd
 rcases hd with rfl | rfl | rfl | rfl | rfl | rfl | rfl <;> (unfold Fine; simp only; decide)
/-- what Code answers -/
def codA (s : Sg) : Int × Int := if okS s = true then (codeV s, 0) else (0, 410)
def v2 (p : Int × Int) : Value := .tuple ⟨[.int .i64 p.1, .int .i64 p.2]⟩
theorem codA_t {s : Sg} (h : okS s = true) : codA s = (codeV s, 0) := if_pos h
theorem codA_f {s : Sg} (h : ¬ okS s = true) : codA s = (0, 410) := if_neg h
theorem dg_len (l : List Dg) : ∀ r ∈ l.map dgE, r.length = 4 := fun r hr => by obtain ⟨x, _, rfl⟩ := List.mem_map.1 hr; rfl
theorem Code_calls (s : Sg) (w : World) : Calls Tryz.prog 21 ⟨[.agg ⟨sgE s⟩]⟩ w fun e w' => e = .returned (v2 (codA s)) /\ Under w.heap.size w w' := by
 refine fEn Tryz.func21 rfl Tryz.ntmps21 rfl rfl (sWn w) ?_
 repeat (first|refine lVa rfl rfl (by first|exact pEv rfl|exact vLd rfl (by repeat constructor) rfl (by rfl)|exact v_build rfl rfl (by rfl)|fail) ?_|refine lNi ?_|refine cRg ?_|refine cSq ?_|refine xTh ?_|refine r_box rfl rfl rfl rfl (fun _ => ?_)|refine r_buildSlice rfl rfl rfl rfl rfl rfl (by rfl) (fun _ => ?_)|fail)
 rename_i b1 b2
 refine r_call rfl rfl rfl (fun W hW => pack_calls (some ⟨b2, 0, none⟩) 7 (digs s) W (by simp [digs]) (digs_fine s) (hW.rows (b := b2) (by repeat constructor) (rest := []) rfl (dg_len _))) ?_
 rw [pv_digs]
 by_cases h : okS s = true
 ·rw [show (digs s).all Dg.fit = true from h, if_pos rfl]
  repeat (first|refine lVa rfl rfl (by first|exact pEv rfl|fail) ?_|refine lNi ?_|refine cRg ?_|refine cSq ?_|refine xTh ?_|refine c_false rfl ?_|refine cSk ?_|refine c_ret ?_|fail)
  exact x_ret rfl rfl (by repeat constructor) rfl (fun W hW => ⟨by rw [codA_t h]; rfl, hW.below⟩)
 ·rw [show (digs s).all Dg.fit = false by simpa [okS] using h]
  repeat (first|refine lVa rfl rfl (by first|exact pEv rfl|fail) ?_|refine lNi ?_|refine cRg ?_|refine cSq ?_|refine xTh ?_|refine c_true rfl ?_|refine c_ret ?_|refine xTr ?_|fail)
  exact x_ret rfl rfl (by repeat constructor) rfl (fun W hW => ⟨by rw [codA_f h]; rfl, hW.below⟩)


end R41
end Go.Proofs

/- Collating: small functions, digits, codes. -/
import Derived.Test.YtdegengehbdelaaGreatDoorTy
import Derived.Test.YtdegengehbdelaaGreatDoorClPair
set_option maxRecDepth 100000
set_option maxHeartbeats 400000000
set_option linter.unusedSectionVars false
set_option linter.unusedVariables false
set_option linter.unusedSimpArgs false
namespace Go.Proofs
open Go.RowKit Go.Kin Go.Kin.Cl
namespace R41
def inE (x : Int) : List Value := [.int .i64 x]
theorem ext_at {w : World} {A : Option Addr} {sz : Nat} {α : Type} {f : α -> List Value} {l : List α} (hA : Kin.At w A sz (l.map f)) {i : Nat} {x : α} (hx : l[i]? = some x) : ∃ b o, A = some ⟨b, o, none⟩ /\ ∀ j v, (f x)[j]? = some v -> w.cell? ⟨b, o + i * sz + j, none⟩ = some v :=
 hA i (f x) (by simp [hx])
theorem in_len (l : List Int) : ∀ r ∈ l.map inE, r.length = 1 := fun r hr => by obtain ⟨x, _, rfl⟩ := List.mem_map.1 hr; rfl


theorem ewithin_calls (n lo hi : Int) (w : World) : Calls Tryz.prog 65 ⟨[.int .i64 n, .int .i64 lo, .int .i64 hi]⟩ w fun e w' => e = .returned (.bool (decide (lo <= n /\ n <= hi))) /\ Below w.heap.size w w' := by
 refine fEn Tryz.func65 rfl Tryz.ntmps65 rfl rfl (sWn w) ?_
 repeat' (first|refine lVa rfl rfl (by first|exact pEv rfl|fail) ?_|refine lNi ?_|refine cRg ?_|refine cSq ?_|refine xTh ?_|refine l_skip rfl rfl ?_|refine c_ret ?_|refine l_dec rfl rfl rfl rfl rfl (fun _ => ?_) (fun _ => ?_)|fail)
 ·refine x_ret rfl rfl (by repeat constructor) rfl (fun W hW => ⟨?_, hW.below⟩)
  simp_all <;> omega
 ·refine x_ret rfl rfl (by repeat constructor) rfl (fun W hW => ⟨?_, hW.below⟩)
  simp_all <;> omega

theorem bes_eq {x y : Int} (h : x = y) : bes x y = 0 := by unfold bes; rw [if_neg (fun g => g.1 h)]
theorem bes_x {x y : Int} (h : x = 8589934592) : bes x y = 0 := by unfold bes; rw [if_neg (fun g => g.2.1 h)]
theorem bes_y {x y : Int} (h : y = 8589934592) : bes x y = 0 := by unfold bes; rw [if_neg (fun g => g.2.2 h)]
theorem bes_ne {x y : Int} (h1 : ¬ x = y) (h2 : ¬ x = 8589934592) (h3 : ¬ y = 8589934592) : bes x y = 3 := by unfold bes; rw [if_pos ⟨h1, h2, h3⟩]
theorem beside_calls (x y : Int) (w : World) : Calls Tryz.prog 39 ⟨[.int .i64 x, .int .i64 y]⟩ w fun e w' => e = .returned (.int .i64 (bes x y)) /\ Below w.heap.size w w' := by
 refine fEn Tryz.func39 rfl Tryz.ntmps39 rfl rfl (sWn w) ?_
 by_cases h1 : x = y
 ·repeat (first|refine lVa rfl rfl (by first|exact pEv rfl|fail) ?_|refine lNi ?_|refine cRg ?_|refine cSq ?_|refine xTh ?_|refine l_skip rfl rfl ?_|refine c_false rfl ?_|refine cSk ?_|refine c_ret ?_|refine l_dec_f rfl rfl rfl rfl rfl (by first|omega|fail) ?_|fail)
  exact x_ret rfl rfl (by repeat constructor) rfl (fun W hW => ⟨by rw [bes_eq h1], hW.below⟩)
 by_cases h2 : x = 8589934592
 ·repeat (first|refine lVa rfl rfl (by first|exact pEv rfl|fail) ?_|refine lNi ?_|refine cRg ?_|refine cSq ?_|refine xTh ?_|refine l_skip rfl rfl ?_|refine c_false rfl ?_|refine cSk ?_|refine c_ret ?_|refine l_dec_t rfl rfl rfl rfl rfl (by first|omega|fail) ?_|refine l_dec_f rfl rfl rfl rfl rfl (by first|omega|fail) ?_|fail)
  exact x_ret rfl rfl (by repeat constructor) rfl (fun W hW => ⟨by rw [bes_x h2], hW.below⟩)
 by_cases h3 : y = 8589934592
 ·repeat (first|refine lVa rfl rfl (by first|exact pEv rfl|fail) ?_|refine lNi ?_|refine cRg ?_|refine cSq ?_|refine xTh ?_|refine c_dec_f rfl (by first|omega|fail) ?_|refine cSk ?_|refine c_ret ?_|refine l_dec_t rfl rfl rfl rfl rfl (by first|omega|fail) ?_|fail)
  exact x_ret rfl rfl (by repeat constructor) rfl (fun W hW => ⟨by rw [bes_y h3], hW.below⟩)
 repeat (first|refine lVa rfl rfl (by first|exact pEv rfl|fail) ?_|refine lNi ?_|refine cRg ?_|refine cSq ?_|refine xTh ?_|refine c_dec_t rfl (by first|omega|fail) ?_|refine c_ret ?_|refine xTr ?_|refine l_dec_t rfl rfl rfl rfl rfl (by first|omega|fail) ?_|fail)
 exact x_ret rfl rfl (by repeat constructor) rfl (fun W hW => ⟨by rw [bes_ne h1 h2 h3], hW.below⟩)


/-! ## Digits -/
structure Dg where
 n : Int
 lo : Int
 hi : Int
 bits : Nat
def dgE (d : Dg) : List Value := [.int .i64 d.n, .int .i64 d.lo, .int .i64 d.hi, .int .i64 d.bits]
def Dg.fit (d : Dg) : Bool := decide (d.lo <= d.n /\ d.n <= d.hi)
def pv (ds : List Dg) : Int := ds.foldl (fun c d => c * 2 ^ d.bits + d.n) 0
def Fine (d : Dg) : Prop := 0 <= d.lo /\ d.hi < 2 ^ d.bits /\ d.bits <= 8
theorem pow_small {k : Nat} (h : k <= 8) : (1 : Int) <= 2 ^ k /\ (2 : Int) ^ k <= 256 := by
 have h1 : ((2 ^ k : Nat) : Int) <= ((2 ^ 8 : Nat) : Int) := Int.ofNat_le.2 (Nat.pow_le_pow_right (by decide) h)
 have h2 : ((1 : Nat) : Int) <= ((2 ^ k : Nat) : Int) := Int.ofNat_le.2 (Nat.two_pow_pos k)
 rw [Int.natCast_pow] at h1 h2
 exact ⟨h2, h1⟩
theorem digit_bd {c n A B : Int} (h0 : 0 <= c) (h1 : c < A) (h2 : 0 <= n) (h3 : n < B) (hB : 1 <= B) : 0 <= c * B /\ c * B + n < A * B := by
 have e1 := Int.mul_nonneg h0 (show 0 <= B by omega)
 have e2 := Int.mul_le_mul_of_nonneg_right (show c + 1 <= A by omega) (show 0 <= B by omega)
 rw [Int.add_mul, Int.one_mul] at e2
 omega
theorem pv_snoc (l : List Dg) (d : Dg) : pv (l ++ [d]) = pv l * 2 ^ d.bits + d.n := by unfold pv; rw [List.foldl_append]; rfl
theorem pow256 {a b : Nat} (h : a <= b) : (256 : Int) ^ a <= 256 ^ b := by
 have h1 : ((256 ^ a : Nat) : Int) <= ((256 ^ b : Nat) : Int) := Int.ofNat_le.2 (Nat.pow_le_pow_right (by decide) h)
 rw [Int.natCast_pow, Int.natCast_pow] at h1
 exact h1
theorem pvf_bd : ∀ (l : List Dg) (c : Int) (m : Nat), (∀ d ∈ l, Fine d) -> l.all Dg.fit = true -> 0 <= c -> c < 256 ^ m -> 0 <= l.foldl (fun c d => c * 2 ^ d.bits + d.n) c /\ l.foldl (fun c d => c * 2 ^ d.bits + d.n) c < 256 ^ (m + l.length)
 | [], c, m, _, _, h0, h1 => ⟨h0, h1⟩
 | d :: l, c, m, hF, hf, h0, h1 => by
  rw [List.all_cons, Bool.and_eq_true] at hf
  obtain ⟨f1, f2, f3⟩ := hF d List.mem_cons_self
  have hfit : d.lo <= d.n /\ d.n <= d.hi := of_decide_eq_true hf.1
  obtain ⟨p1, p2⟩ := pow_small f3
  obtain ⟨e1, e2⟩ := digit_bd h0 h1 (show 0 <= d.n by omega) (show d.n < 2 ^ d.bits by omega) p1
  have h3 : c * 2 ^ d.bits + d.n < 256 ^ (m + 1) := by
   rw [Int.pow_succ]
   exact Int.lt_of_lt_of_le e2 (Int.mul_le_mul_of_nonneg_left p2 (by omega))
  have h4 := pvf_bd l (c * 2 ^ d.bits + d.n) (m + 1) (fun e he => hF e (List.mem_cons_of_mem _ he)) hf.2 (by omega) h3
  rw [show m + 1 + l.length = m + (d :: l).length by simp only [List.length_cons]; omega] at h4
  exact h4
theorem pv_small {l : List Dg} (hF : ∀ d ∈ l, Fine d) (hf : l.all Dg.fit = true) (hl : l.length <= 6) : 0 <= pv l /\ pv l < 281474976710656 := by
 obtain ⟨h1, h2⟩ := pvf_bd l 0 0 hF hf (by decide) (by decide)
 rw [Nat.zero_add] at h2
 have h3 := pow256 hl
 have h4 : (256 : Int) ^ 6 = 281474976710656 := by decide
 exact ⟨h1, by rw [<- h4]; exact Int.lt_of_lt_of_le h2 h3⟩

theorem pack_calls (A : Option Addr) (cap : Nat) (ds : List Dg) (w : World) (hl : ds.length <= 7) (hF : ∀ d ∈ ds, Fine d) (hA : Kin.At w A 4 (ds.map dgE)) :
  Calls Tryz.prog 37 ⟨[.slice A ds.length cap]⟩ w fun e w' => e = .returned (.tuple ⟨[.int .i64 (if ds.all Dg.fit = true then pv ds else 0), .bool (ds.all Dg.fit)]⟩) /\ Below w.heap.size w w' := by
 refine fEn Tryz.func37 rfl Tryz.ntmps37 rfl rfl (sWn w) ?_
 repeat (first|refine lVa rfl rfl (by first|exact pEv rfl|fail) ?_|refine lNi ?_|refine cRg ?_|refine cSq ?_|refine xTh ?_|refine cBl ?_|fail)
 refine c_loop (ι := Nat) (fun k => k <= ds.length /\ (Unit -> (ds.take k).all Dg.fit = true)) (fun k => [(2, .int .i64 (pv (ds.take k))), (3, .bool false), (6, .slice A ds.length cap), (7, .int .i64 ds.length), (8, .int .i64 k)]) (fun _ => []) (fun k => ds.length - k) 0 ⟨by omega, fun _ => rfl⟩ (by repeat (first|exact .nil|refine .cons rfl (by first|rfl|(congr 1; done)|exact congrArg _ (by omega)|(simp; done)) ?_)) (by repeat (first|exact .nil|refine .keep (by first|rfl|assumption) ?_|refine .drop ?_|exact MSub.refl _)) ?_
 rintro k ⟨hk, hf⟩
 by_cases hlt : k < ds.length
 ·obtain ⟨d, hd⟩ : ∃ d, ds[k]? = some d := ⟨_, List.getElem?_eq_getElem hlt⟩
  obtain ⟨b, o, rfl, hc⟩ := ext_at hA hd
  have he := ext_of hc
  unfold dgE at he
  obtain ⟨f1, f2, f3⟩ := hF d (List.mem_of_getElem? hd)
  obtain ⟨p1, p2⟩ := pow_small f3
  have ht : ds.take (k + 1) = ds.take k ++ [d] := by rw [List.take_add_one, hd]; rfl
  obtain ⟨c1, c2⟩ := pv_small (fun e he => hF e (List.mem_of_mem_take he)) (hf ()) (show (ds.take k).length <= 6 by rw [List.length_take]; omega)
  have hn : pv (ds.take (k + 1)) = pv (ds.take k) * 2 ^ d.bits + d.n := by rw [ht, pv_snoc]
  have hall : (ds.take (k + 1)).all Dg.fit = d.fit := by rw [ht, List.all_append, hf ()]; simp
  by_cases g1 : d.lo <= d.n
  ·by_cases g2 : d.n <= d.hi
   ·have hfit : d.fit = true := decide_eq_true ⟨g1, g2⟩
    obtain ⟨e1, e2⟩ := digit_bd c1 c2 (show 0 <= d.n by omega) (show d.n < 2 ^ d.bits by omega) p1
    have hA2 : (281474976710656 : Int) * 2 ^ d.bits <= 281474976710656 * 256 := Int.mul_le_mul_of_nonneg_left p2 (by omega)
    have s1 : IntKind.i64.wrap (pv (ds.take k) * 2 ^ d.bits) = pv (ds.take k) * 2 ^ d.bits := wrap_i64 (by omega) (by omega)
    have s2 : bits .or .i64 (pv (ds.take k) * 2 ^ d.bits) d.n = pv (ds.take (k + 1)) := by
     rw [hn]
     exact or_join _ _ _ c1 (by omega) (by omega) (by omega) (by omega)
    have hf' := fun (_ : Unit) => hall.trans hfit
    clear hall hn ht
    repeat (first|refine lVa rfl rfl (by first|exact v_add rfl rfl (by omega) (by omega)|exact pEv rfl|exact vLd rfl (by repeat constructor) rfl (by rfl)|exact vL0 rfl (by assumption) rfl (by rfl)|exact v_index rfl rfl rfl rfl (by omega) (by omega) (by with_reducible first|exact idx4 _ _ _|fail)|fail) ?_|refine lNi ?_|refine cRg ?_|refine cSq ?_|refine xTh ?_|refine r_alloc rfl rfl rfl (by first|exact aggL|fail) (fun _ => ?_)|refine rSt rfl rfl rfl rfl rfl rfl rfl (by repeat constructor) (by rfl) ?_|refine c_dec_t rfl (by first|omega|fail) ?_|refine c_dec_f rfl (by first|omega|exact fun h => h rfl|fail) ?_|refine cBl ?_|refine cSk ?_|refine x_block ?_|refine l_dec_f rfl rfl rfl rfl rfl (by first|omega|fail) ?_|refine c_reads rfl (by decide +kernel) ?_|refine q_val rfl rfl (by first|exact pEv rfl|exact vLd rfl (by repeat constructor) rfl (by rfl)|fail) ?_|refine q_nil ?_|(refine q_val rfl rfl (v_shlA rfl rfl (by omega) (by assumption)) ?_)|(refine q_val rfl rfl (v_orA rfl rfl (by assumption)) ?_)|fail)
    exact x_back (k + 1) ⟨hlt, hf'⟩ (by omega) (by repeat (first|exact .nil|refine .cons rfl (by first|rfl|(congr 1; done)|exact congrArg _ (by omega)|(simp; done)) ?_)) (by repeat (first|exact .nil|refine .keep (by first|rfl|assumption) ?_|refine .drop ?_|exact MSub.refl _))
   ·have hno : ds.all Dg.fit = false := by
     rw [List.all_eq_false]; exact ⟨d, List.mem_of_getElem? hd, by rw [show d.fit = false from decide_eq_false (fun h => g2 h.2)]; decide⟩
    clear hall hn ht
    repeat (first|refine lVa rfl rfl (by first|exact pEv rfl|exact vLd rfl (by repeat constructor) rfl (by rfl)|exact vL0 rfl (by assumption) rfl (by rfl)|exact v_index rfl rfl rfl rfl (by omega) (by omega) (by with_reducible first|exact idx4 _ _ _|fail)|fail) ?_|refine lNi ?_|refine cRg ?_|refine cSq ?_|refine xTh ?_|refine r_alloc rfl rfl rfl (by first|exact aggL|fail) (fun _ => ?_)|refine rSt rfl rfl rfl rfl rfl rfl rfl (by repeat constructor) (by rfl) ?_|refine c_dec_t rfl (by first|omega|fail) ?_|refine cBl ?_|refine cSk ?_|refine c_ret ?_|refine xTr ?_|refine xBr ?_|refine l_dec_f rfl rfl rfl rfl rfl (by first|omega|fail) ?_|fail)
    exact x_ret rfl rfl (by repeat constructor) rfl (fun W hW => ⟨by rw [hno]; rfl, hW.below⟩)
  ·have hno : ds.all Dg.fit = false := by
    rw [List.all_eq_false]; exact ⟨d, List.mem_of_getElem? hd, by rw [show d.fit = false from decide_eq_false (fun h => g1 h.1)]; decide⟩
   clear hall hn ht
   repeat (first|refine lVa rfl rfl (by first|exact pEv rfl|exact vLd rfl (by repeat constructor) rfl (by rfl)|exact vL0 rfl (by assumption) rfl (by rfl)|exact v_index rfl rfl rfl rfl (by omega) (by omega) (by with_reducible first|exact idx4 _ _ _|fail)|fail) ?_|refine lNi ?_|refine cRg ?_|refine cSq ?_|refine xTh ?_|refine l_skip rfl rfl ?_|refine r_alloc rfl rfl rfl (by first|exact aggL|fail) (fun _ => ?_)|refine rSt rfl rfl rfl rfl rfl rfl rfl (by repeat constructor) (by rfl) ?_|refine c_true rfl ?_|refine c_dec_t rfl (by first|omega|fail) ?_|refine cBl ?_|refine cSk ?_|refine c_ret ?_|refine xTr ?_|refine xBr ?_|refine l_dec_t rfl rfl rfl rfl rfl (by first|omega|fail) ?_|fail)
   exact x_ret rfl rfl (by repeat constructor) rfl (fun W hW => ⟨by rw [hno]; rfl, hW.below⟩)
 ·have hkl : k = ds.length := by omega
  subst hkl
  have hyes := hf ()
  rw [List.take_length] at hyes ⊢
  repeat (first|refine lVa rfl rfl (by first|exact pEv rfl|fail) ?_|refine lNi ?_|refine cRg ?_|refine cSq ?_|refine xTh ?_|refine c_dec_f rfl (by first|omega|fail) ?_|refine c_ret ?_|refine c_exit ?_|refine xTe ?_|refine xBs ?_|fail)
  exact x_ret rfl rfl (by repeat constructor) rfl (fun W hW => ⟨by rw [hyes]; rfl, hW.below⟩)
end R41
end Go.Proofs

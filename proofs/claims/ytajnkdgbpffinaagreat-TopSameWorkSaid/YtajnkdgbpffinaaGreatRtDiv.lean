/- Collating: signs of codes. -/
import Derived.Test.YtajnkdgbpffinaaGreatClB
import Derived.WalkKit
import Derived.Test.YtajnkdgbpffinaaGreatProg
import Derived.Test.YtajnkdgbpffinaaGreatGenCell
import Derived.WalkSpells
import Derived.WalkLawsBesides
import Derived.TacticsInMore
import Derived.LoopNIn
import Derived.LoopIn
import Derived.BigQuiet
import Derived.Deep.QuietTactic
import Derived.Lib.Hide
set_option maxRecDepth 100000
set_option maxHeartbeats 400000000
set_option linter.unusedSectionVars false
set_option linter.unusedVariables false
set_option linter.unusedSimpArgs false
namespace Go.Proofs
open Go.RowKit Go.Kin Go.Kin.Cl
namespace R41
/-- the sign of a code, taken apart -/
def unp (c : Int) : Sg := ⟨0, c / 128 / 256 / 4 / 16 / 4 / 16, 0, 0, c / 128 / 256 / 4 / 16 / 4 % 16, c / 128 / 256 / 4 / 16 % 4, c / 128 / 256 / 4 % 16, c / 128 / 256 % 4, c / 128 % 256, c % 128, 0, 0, 0, 0⟩
/-- what Sign answers -/
def sgnA (c : Int) : Sg × Int := if okS (unp c) = true then (unp c, 0) else (sg0, 410)
def vS (p : Sg × Int) : Value := .tuple ⟨[.agg ⟨sgE p.1⟩, .int .i64 p.2]⟩
theorem sgnA_t {c : Int} (h : okS (unp c) = true) : sgnA c = (unp c, 0) := if_pos h
theorem sgnA_f {c : Int} (h : ¬ okS (unp c) = true) : sgnA c = (sg0, 410) := if_neg h
theorem unp_range {c : Int} (h : okS (unp c) = true) : 0 <= c /\ c < 8589934592 := by
 have := (okS_iff.1 h).1
 simp only [unp] at this
 omega

theorem last_calls (b : Nat) (r p : Int) (k : Nat) (w : World) (hp : (2 : Int) ^ k = p) (hk : k <= 8) (hr : -9223372036854775808 <= r /\ r <= 9223372036854775807) (h : w.heap[b]? = some (.cells ⟨[.int .i64 r]⟩ 3 (0, 0))) :
  Calls Tryz.prog 67 ⟨[.int .i64 k, .pointer (some ⟨b, 0, none⟩)]⟩ w fun e w' => e = .returned (.int .i64 (r % p)) /\ Same (fun k => k ≠ b) w w' /\ w'.heap[b]? = some (.cells ⟨[.int .i64 (r / p)]⟩ 3 (0, 0)) := by
 have hsat : SatW w (fun k => k < w.heap.size /\ k ≠ b) noJ [(b, .cells ⟨[.int .i64 r]⟩ 3 (0, 0))] w :=
  ⟨Same.refl _ _, fun _ h => h.1, by simp, fun p hp => by rw [List.mem_singleton.1 hp]; exact ⟨fun h => h.2 rfl, h⟩, closed_noJ, trivial⟩
 obtain ⟨p1, p2⟩ := pow_small hk
 rw [hp] at p1 p2
 have s1 : IntKind.i64.wrap (1 * 2 ^ k) = p := by rw [hp, Int.one_mul, wrap_i64 (by omega) (by omega)]
 have s2 : bits .and .i64 r (p - 1) = r % p := by rw [<- hp]; exact and_low r k (by omega)
 have s3 : r / 2 ^ k = r / p := by rw [hp]
 refine fEn Tryz.func67 rfl Tryz.ntmps67 rfl rfl hsat ?_
 repeat (first|refine lVa rfl rfl (by first|exact pEv rfl|exact vLd rfl (by repeat constructor) rfl (by rfl)|fail) ?_|refine lNi ?_|refine cRg ?_|refine cSq ?_|refine xTh ?_|refine rSt rfl rfl rfl rfl rfl rfl rfl (by repeat constructor) (by rfl) ?_|refine c_ret ?_|refine c_reads rfl (by decide +kernel) ?_|refine q_val rfl rfl (by first|exact v_sub rfl rfl (by omega) (by omega)|exact pEv rfl|exact vLd rfl (by repeat constructor) rfl (by rfl)|fail) ?_|refine q_nil ?_|(refine q_val rfl rfl (v_shlA rfl rfl (by omega) (by assumption)) ?_)|(refine q_val rfl rfl (v_andA rfl rfl (by assumption)) ?_)|(refine lVa rfl rfl (v_shrA rfl rfl (by omega) (by assumption)) ?_)|fail)
 refine x_ret rfl rfl (by repeat constructor) rfl (fun W hW => ⟨rfl, hW.same.monoLt fun b hb hne => ⟨hb, hne⟩, (hW.own _ (by repeat constructor)).2⟩)

theorem Sign_calls (c : Int) (w : World) (hc : -9223372036854775808 <= c /\ c <= 9223372036854775807) : Calls Tryz.prog 29 ⟨[.int .i64 c]⟩ w fun e w' => e = .returned (vS (sgnA c)) /\ Under w.heap.size w w' := by
 obtain ⟨hc1, hc2⟩ := hc
 obtain ⟨r1, hr1⟩ : ∃ r, c / 128 = r := ⟨_, rfl⟩
 obtain ⟨r2, hr2⟩ : ∃ r, r1 / 256 = r := ⟨_, rfl⟩
 obtain ⟨r3, hr3⟩ : ∃ r, r2 / 4 = r := ⟨_, rfl⟩
 obtain ⟨r4, hr4⟩ : ∃ r, r3 / 16 = r := ⟨_, rfl⟩
 obtain ⟨r5, hr5⟩ : ∃ r, r4 / 4 = r := ⟨_, rfl⟩
 obtain ⟨r6, hr6⟩ : ∃ r, r5 / 16 = r := ⟨_, rfl⟩
 have hu : unp c = ⟨0, r6, 0, 0, r5 % 16, r4 % 4, r3 % 16, r2 % 4, r1 % 256, c % 128, 0, 0, 0, 0⟩ := by unfold unp; rw [hr1, hr2, hr3, hr4, hr5, hr6]
 have b1 : -9223372036854775808 <= r1 /\ r1 <= 9223372036854775807 := by omega
 have b2 : -9223372036854775808 <= r2 /\ r2 <= 9223372036854775807 := by omega
 have b3 : -9223372036854775808 <= r3 /\ r3 <= 9223372036854775807 := by omega
 have b4 : -9223372036854775808 <= r4 /\ r4 <= 9223372036854775807 := by omega
 have b5 : -9223372036854775808 <= r5 /\ r5 <= 9223372036854775807 := by omega
 refine fEn Tryz.func29 rfl Tryz.ntmps29 rfl rfl (sWn w) ?_
 repeat (first|refine lVa rfl rfl (by first|exact pEv rfl|fail) ?_|refine lNi ?_|refine cRg ?_|refine cSq ?_|refine xTh ?_|refine r_alloc rfl rfl rfl (by first|exact aggL|fail) (fun _ => ?_)|refine rSt rfl rfl rfl rfl rfl rfl rfl (by repeat constructor) (by rfl) ?_|fail)
 rename_i x2 x4
 refine r_callvu (o := .cells ⟨[.int .i64 c]⟩ 3 (0, 0)) (o' := .cells ⟨[.int .i64 r1]⟩ 3 (0, 0)) rfl rfl rfl rfl rfl (by repeat constructor) (fun W hW h => hr1 ▸ last_calls x4 c 128 7 W (by decide) (by decide) ⟨hc1, hc2⟩ h) (by repeat constructor) ?_
 repeat (first|refine lVa rfl rfl (by first|exact pEv rfl|fail) ?_|refine lNi ?_|refine cRg ?_|refine cSq ?_|refine xTh ?_|refine rSt rfl rfl rfl rfl rfl rfl rfl (by repeat constructor) (by rfl) ?_|fail)
 refine r_callvu (o := .cells ⟨[.int .i64 r1]⟩ 3 (0, 0)) (o' := .cells ⟨[.int .i64 r2]⟩ 3 (0, 0)) rfl rfl rfl rfl rfl (by repeat constructor) (fun W hW h => hr2 ▸ last_calls x4 r1 256 8 W (by decide) (by decide) b1 h) (by repeat constructor) ?_
 repeat (first|refine lVa rfl rfl (by first|exact pEv rfl|fail) ?_|refine lNi ?_|refine cRg ?_|refine cSq ?_|refine xTh ?_|refine rSt rfl rfl rfl rfl rfl rfl rfl (by repeat constructor) (by rfl) ?_|fail)
 refine r_callvu (o := .cells ⟨[.int .i64 r2]⟩ 3 (0, 0)) (o' := .cells ⟨[.int .i64 r3]⟩ 3 (0, 0)) rfl rfl rfl rfl rfl (by repeat constructor) (fun W hW h => hr3 ▸ last_calls x4 r2 4 2 W (by decide) (by decide) b2 h) (by repeat constructor) ?_
 repeat (first|refine lVa rfl rfl (by first|exact pEv rfl|fail) ?_|refine lNi ?_|refine cRg ?_|refine cSq ?_|refine xTh ?_|refine rSt rfl rfl rfl rfl rfl rfl rfl (by repeat constructor) (by rfl) ?_|fail)
 refine r_callvu (o := .cells ⟨[.int .i64 r3]⟩ 3 (0, 0)) (o' := .cells ⟨[.int .i64 r4]⟩ 3 (0, 0)) rfl rfl rfl rfl rfl (by repeat constructor) (fun W hW h => hr4 ▸ last_calls x4 r3 16 4 W (by decide) (by decide) b3 h) (by repeat constructor) ?_
 repeat (first|refine lVa rfl rfl (by first|exact pEv rfl|fail) ?_|refine lNi ?_|refine cRg ?_|refine cSq ?_|refine xTh ?_|refine rSt rfl rfl rfl rfl rfl rfl rfl (by repeat constructor) (by rfl) ?_|fail)
 refine r_callvu (o := .cells ⟨[.int .i64 r4]⟩ 3 (0, 0)) (o' := .cells ⟨[.int .i64 r5]⟩ 3 (0, 0)) rfl rfl rfl rfl rfl (by repeat constructor) (fun W hW h => hr5 ▸ last_calls x4 r4 4 2 W (by decide) (by decide) b4 h) (by repeat constructor) ?_
 repeat (first|refine lVa rfl rfl (by first|exact pEv rfl|fail) ?_|refine lNi ?_|refine cRg ?_|refine cSq ?_|refine xTh ?_|refine rSt rfl rfl rfl rfl rfl rfl rfl (by repeat constructor) (by rfl) ?_|fail)
 refine r_callvu (o := .cells ⟨[.int .i64 r5]⟩ 3 (0, 0)) (o' := .cells ⟨[.int .i64 r6]⟩ 3 (0, 0)) rfl rfl rfl rfl rfl (by repeat constructor) (fun W hW h => hr6 ▸ last_calls x4 r5 16 4 W (by decide) (by decide) b5 h) (by repeat constructor) ?_
 repeat (first|refine lVa rfl rfl (by first|exact pEv rfl|exact vLd rfl (by repeat constructor) rfl (by rfl)|fail) ?_|refine lNi ?_|refine cRg ?_|refine cSq ?_|refine xTh ?_|refine rSt rfl rfl rfl rfl rfl rfl rfl (by repeat constructor) (by rfl) ?_|fail)
 refine r_call rfl rfl rfl (fun W hW => Code_calls ⟨0, r6, 0, 0, r5 % 16, r4 % 4, r3 % 16, r2 % 4, r1 % 256, c % 128, 0, 0, 0, 0⟩ W) ?_
 by_cases h : okS (unp c) = true
 ·rw [codA_t (by rw [<- hu]; exact h)]
  have hv := sgnA_t h
  rw [hu] at hv
  repeat (first|refine lVa rfl rfl (by first|exact pEv rfl|exact vLd rfl (by repeat constructor) rfl (by rfl)|fail) ?_|refine lNi ?_|refine cRg ?_|refine cSq ?_|refine xTh ?_|refine rSt rfl rfl rfl rfl rfl rfl rfl (by repeat constructor) (by rfl) ?_|refine c_false rfl ?_|refine cSk ?_|refine c_ret ?_|fail)
  exact x_ret rfl rfl (by repeat constructor) rfl (fun W hW => ⟨by rw [hv]; rfl, hW.below⟩)
 ·rw [codA_f (by rw [<- hu]; exact h)]
  have hv := sgnA_f h
  repeat (first|refine lVa rfl rfl (by first|exact pEv rfl|exact v_build rfl rfl (by rfl)|fail) ?_|refine lNi ?_|refine cRg ?_|refine cSq ?_|refine xTh ?_|refine rSt rfl rfl rfl rfl rfl rfl rfl (by repeat constructor) (by rfl) ?_|refine c_true rfl ?_|refine c_ret ?_|refine xTr ?_|fail)
  exact x_ret rfl rfl (by repeat constructor) rfl (fun W hW => ⟨by rw [hv]; rfl, hW.below⟩)

/-! ## Codes -/
def isC (c : Int) : Bool := okS (unp c) || decide (c = 8589934592)
theorem isC_t {c : Int} (h : okS (unp c) = true) : isC c = true := by unfold isC; rw [h]; rfl
theorem isC_f {c : Int} (h : ¬ okS (unp c) = true) : isC c = decide (c = 8589934592) := by unfold isC; rw [show okS (unp c) = false by simpa using h]; rfl


end R41
end Go.Proofs

namespace Go.Proofs
namespace R12
/-- what `remainders` yields -/
def rems : Nat -> Nat -> Nat -> List Nat
 | 0, _, _ => []
 | f + 1, a, b => if a = 0 then [] else a :: (if a % max b 1 = 0 then [b] else rems f b (a % max b 1))
theorem rems_stable : ∀ (f a b : Nat), b < f -> ∀ g, b < g -> rems f a b = rems g a b
 | 0, _, _, h, _, _ => by omega
 | f + 1, a, b, h, g, hg => by
  cases g with
  | zero => omega
  | succ g =>
   simp only [rems]
   split
   ·rfl
   ·split
    ·rfl
    ·have hlt : a % max b 1 < b ∨ b = 0 := by
      by_cases hb : b = 0
      ·right; exact hb
      ·left; have : max b 1 = b := by omega
       rw [this]; exact Nat.mod_lt _ (by omega)
     rcases hlt with hlt | hlt
     ·rw [rems_stable f b _ (by omega) g (by omega)]
     ·subst hlt; rename_i h1 h2; exact absurd (by simp [Nat.mod_one]) h2
def remL (a b : Nat) : List Nat := rems (b + 1) a b
theorem remL_zero (b : Nat) : remL 0 b = [] := by simp [remL, rems]
theorem remL_last (a b : Nat) (ha : a ≠ 0) (h : a % max b 1 = 0) : remL a b = [a, b] := by simp [remL, rems, ha, h]
theorem remL_next (a b : Nat) (ha : a ≠ 0) (h : a % max b 1 ≠ 0) : remL a b = a :: remL b (a % max b 1) := by
 have hb : b ≠ 0 := by intro e; subst e; exact h (by simp [Nat.mod_one])
 have hm : max b 1 = b := by omega
 have hlt : a % b < b := Nat.mod_lt _ (by omega)
 rw [hm] at h ⊢
 show rems (b + 1) a b = _
 simp only [rems, hm, if_neg ha, if_neg h]
 congr 1
 exact rems_stable _ _ _ hlt _ (Nat.lt_succ_self _)
/-- the last one that comes, `d` if none -/
theorem remL_gcd (b : Nat) : ∀ (a : Nat), b ≠ 0 -> (remL a b).getLastD b = Nat.gcd a b := by
 induction b using Nat.strongRecOn with
 | _ b ih =>
  intro a hb
  have hm : max b 1 = b := by omega
  by_cases ha : a = 0
  ·subst ha; simp [remL_zero]
  ·by_cases h : a % max b 1 = 0
   ·rw [remL_last a b ha h]; rw [hm] at h
    simp only [List.getLastD_cons, List.getLastD_nil]
    exact (Nat.gcd_eq_right (Nat.dvd_of_mod_eq_zero h)).symm
   ·rw [remL_next a b ha h]
    rw [hm] at h ⊢
    have h1 := ih (a % b) (Nat.mod_lt _ (by omega)) b h
    have hne : remL b (a % b) ≠ [] := by
     by_cases h2 : b % max (a % b) 1 = 0
     ·rw [remL_last b _ hb h2]; simp
     ·rw [remL_next b _ hb h2]; simp
    rw [List.getLastD_cons, List.getLastD_eq_getLast?]
    rw [List.getLastD_eq_getLast?] at h1
    rw [List.getLast?_eq_some_getLast hne] at h1 ⊢
    simp only [Option.getD_some] at h1 ⊢
    rw [h1, Nat.gcd_comm, <- Nat.gcd_rec, Nat.gcd_comm]
end R12
end Go.Proofs

set_option maxRecDepth 100000
set_option maxHeartbeats 400000000
namespace Go.Proofs
open Go.RowKit Go.Shelf Go.Kin
namespace R12
attribute [local go_sem] Oper.semAt_some

theorem remainders_any (x y : Nat) (w : World) :
  Calls Tryz.prog 124 #[.int .u64 x, .int .u64 y] w fun e w' => e = .returned (.func (.func 128) #[] #[.pointer (some ⟨w.heap.size, 0, none⟩), .pointer (some ⟨w.heap.size + 1, 0, none⟩)]) /\
   w' = (w.alloc (.cells #[.int .u64 x] 103 (0, 0))).alloc (.cells #[.int .u64 y] 103 (0, 0)) := by
 go_enter Tryz.func124, Tryz.ntmps124
 go_wp2
 go_ret
 exact ⟨rfl, rfl⟩

def boxN (W : World) (b : Nat) : Nat := match W.cell? ⟨b, 0, none⟩ with | some (.int _ n) => n.toNat | _ => 0
theorem boxN_of {W : World} {b : Nat} {t : TypeId} {k : IntKind} {n : Nat} (h : Box W b t (.int k n)) : boxN W b = n := by
 unfold boxN; rw [h.cell]; simp
theorem iter50 (ba bb a b : Nat) (W : World) (hne : ba ≠ bb) (ha : Box W ba 103 (.int .u64 a)) (hb : Box W bb 103 (.int .u64 b)) (hla : a < 18446744073709551616) (hlb : b < 18446744073709551616) :
  Iter Tryz.prog 128 #[.pointer (some ⟨ba, 0, none⟩), .pointer (some ⟨bb, 0, none⟩)] (fun x : Nat => #[.int .u64 x]) (remL a b) (fun k => k = ba ∨ k = bb) (fun k => k = ba ∨ k = bb) W := by
 intro n l J Jx hJ hJx hY h0
 have HY := Lib.hid hY; clear hY
 have HJ := Lib.hid hJ; clear hJ
 have HJx := Lib.hid hJx; clear hJx
 have HL : Hid (remL a b = List.take 0 (remL a b) ++ remL a b) := Lib.hid (by simp)
 refine (callsIn_wide (n := n + 1)).1 (callsIn_of_wp Tryz.func128 rfl trivial ?_ rfl)
 simp only [Tryz.ntmps128, List.size_toArray, List.length_cons, List.length_nil, Nat.reduceAdd, Nat.reduceSub, Array.replicate_succ, Array.replicate_zero, List.push_toArray, List.append_toArray, List.nil_append, List.cons_append]
 gi_wp2
 gi_loopw [4] (fun _ wr => ∃ k p q : Nat, J k wr /\ Box wr ba 103 (.int .u64 p) /\ Box wr bb 103 (.int .u64 q) /\ p < 18446744073709551616 /\ q < 18446744073709551616 /\ Hid (remL a b = (remL a b).take k ++ remL p q) /\ k <= (remL a b).length)
  (fun _ wr => boxN wr bb)
 case atStart => exact ⟨0, a, b, h0, ha, hb, hla, hlb, HL, Nat.zero_le _⟩
 case round =>
  obtain ⟨k, p, q, hj, hp, hq, hlp, hlq, HK, hk⟩ := hrel
  have hc1 := hp.cell
  have hc2 := hq.cell
  by_cases hp0 : p = 0
  ·subst hp0
   gi_wp2
   refine ⟨fun _ _ => trivial, ?_⟩
   gi_wp2
   go_end0
   rw [remL_zero, List.append_nil] at HK
   have hkl : k = (remL a b).length := by
    have h1 := congrArg List.length HK.out
    rw [List.length_take] at h1; omega
   exact ⟨⟨_, rfl⟩, .inl (hkl ▸ hj)⟩
  ·have hp1 : ((p : Int) == 0) = false := by simp; omega
   have hp2 : ((p : Int) != 0) = true := by simp; omega
   have hlen : k < (remL a b).length /\ ∀ h, (remL a b)[k]'h = p := by
    have h1 := HK.out
    have h2 : ∃ r, remL p q = p :: r := by
     by_cases h : p % max q 1 = 0
     ·exact ⟨_, remL_last p q hp0 h⟩
     ·exact ⟨_, remL_next p q hp0 h⟩
    obtain ⟨r, hr⟩ := h2
    rw [hr] at h1
    have h3 : k < (remL a b).length := by
     have := congrArg List.length h1
     rw [List.length_append, List.length_take, List.length_cons] at this; omega
    refine ⟨h3, fun h => ?_⟩
    have h4 : (remL a b)[k]? = (List.take k (remL a b) ++ p :: r)[k]? := congrArg (·[k]?) h1
    rw [List.getElem?_append_right (by rw [List.length_take]; omega), List.length_take, Nat.min_eq_left hk, Nat.sub_self, List.getElem?_eq_getElem h] at h4
    simpa using h4
   have hYk := HY.out k hlen.1 wr hj
   rw [hlen.2] at hYk
   obtain ⟨fn, tmps, assign, body, hy, hR⟩ := hYk
   gi_wp2_with fail
   refine hR.mono ?_
   rintro e W3 (⟨rfl, hj3, hs3⟩ | ⟨rfl, hjx⟩)
   ·have hp3 := hp.keep hs3 (.inl rfl)
    have hq3 := hq.keep hs3 (.inr rfl)
    have hc3 := hp3.cell
    have hc4 := hq3.cell
    have hf3 := hp3.frozen
    have hf4 := hq3.frozen
    clear hc1 hc2 hy hR
    have hmx : ((max (q : Int) 1)) = ((max q 1 : Nat) : Int) := by omega
    have hq1 : ((max q 1 : Nat) : Int) ≠ 0 := by omega
    gi_wp2_with fail
    gi_region
    have hmx : (if (q : Int) < 1 then 1 else (q : Int)) = ((max q 1 : Nat) : Int) := by omega
    have hmm : (p : Int) % ((max q 1 : Nat) : Int) = ((p % max q 1 : Nat) : Int) := by omega
    simp only [hmx, hmm]
    clear hmx hmm hc3 hc4 hf3 hf4
    have hsT : Same (fun b => ¬(b = ba ∨ b = bb)) W3 ((W3.setCell ⟨ba, 0, none⟩ (.int .u64 q)).setCell ⟨bb, 0, none⟩ (.int .u64 ((p % max q 1 : Nat) : Int))).drew :=
     ((Same.setCell _ _ _ (fun h => h (.inl rfl))).trans (Same.setCell _ _ _ (fun h => h (.inr rfl)))).trans (Same.drew _ _)
    have hb4 : Box ((W3.setCell ⟨ba, 0, none⟩ (.int .u64 q)).setCell ⟨bb, 0, none⟩ (.int .u64 ((p % max q 1 : Nat) : Int))).drew bb 103 (.int .u64 ((p % max q 1 : Nat) : Int)) :=
     (hq3.other (Ne.symm hne) 0 _).set _
    have hb3 : Box ((W3.setCell ⟨ba, 0, none⟩ (.int .u64 q)).setCell ⟨bb, 0, none⟩ (.int .u64 ((p % max q 1 : Nat) : Int))).drew ba 103 (.int .u64 q) :=
     (hp3.set _).other hne 0 _
    generalize ((W3.setCell ⟨ba, 0, none⟩ (.int .u64 q)).setCell ⟨bb, 0, none⟩ (.int .u64 ((p % max q 1 : Nat) : Int))).drew = W4 at hsT hb4 hb3 ⊢
    have hj4 := HJ.out _ _ _ hj3 hsT
    clear hsT hj3 hp3 hq3 hs3
    have hlm : p % max q 1 < 18446744073709551616 := Nat.lt_of_le_of_lt (Nat.mod_le _ _) hlp
    by_cases hz : p % max q 1 = 0
    ·have h2 := remL_last p q hp0 hz
     have hlen2 : (remL a b).length = k + 2 /\ ∀ h, (remL a b)[k + 1]'h = q := by
      have h1 := HK.out
      rw [h2] at h1
      have h3 : (remL a b).length = k + 2 := by
       have := congrArg List.length h1
       rw [List.length_append, List.length_take] at this; simp at this; omega
      refine ⟨h3, fun h => ?_⟩
      have h4 : (remL a b)[k + 1]? = (List.take k (remL a b) ++ [p, q])[k + 1]? := congrArg (·[k + 1]?) h1
      rw [List.getElem?_append_right (by rw [List.length_take]; omega), List.length_take, Nat.min_eq_left hk, List.getElem?_eq_getElem h] at h4
      simpa using h4
     have hYk := HY.out (k + 1) (by omega) W4 hj4
     rw [hlen2.2] at hYk
     obtain ⟨fn, tmps, assign, body, hy, hR⟩ := hYk
     rw [hz] at hb4 ⊢
     have hc3 := hb3.cell
     have hc4 := hb4.cell
     have hz0 : (((0 : Nat) : Int) == 0) = true := rfl
     clear h2 HK
     gi_wp2_with fail
     refine hR.mono ?_
     rintro e W5 (⟨rfl, hj5, _⟩ | ⟨rfl, hjx⟩)
     ·gi_wp2
      exact bodyPost_ret (results_none rfl _ _ _) rfl ⟨⟨_, rfl⟩, .inl (by rw [hlen2.1]; exact hj5)⟩
     ·gi_wp2
      exact bodyPost_ret (results_none rfl _ _ _) rfl ⟨⟨_, rfl⟩, .inr ⟨k + 1, by omega, hjx⟩⟩
    ·have hn := remL_next p q hp0 hz
     have HK2 : Hid (remL a b = (remL a b).take (k + 1) ++ remL q (p % max q 1)) := Lib.hid (by
      have h1 := HK.out
      rw [hn] at h1
      rw [List.take_succ_eq_append_getElem hlen.1, hlen.2, List.append_assoc]
      exact h1)
     have hq0 : q ≠ 0 := by intro e; subst e; exact hz (by simp [Nat.mod_one])
     have hmlt : p % max q 1 < q := by
      have : max q 1 = q := by omega
      rw [this]; exact Nat.mod_lt _ (by omega)
     have hbn := boxN_of hb4
     have hbw := boxN_of hq
     have HB := Lib.hid hbn; clear hbn
     have HBw := Lib.hid hbw; clear hbw
     have hkl := hlen.1
     clear hn HK hlen
     generalize p % max q 1 = m at hlm hz HK2 hmlt hb4 hb3 HB ⊢
     have hc3 := hb3.cell
     have hc4 := hb4.cell
     have hz1 : ((m : Int) == 0) = false := by simp; omega
     gi_wp2
     go_roundw
     case rel => exact ⟨k + 1, q, m, hj4, hb3, hb4, hlq, hlm, HK2, by omega⟩
     case measure => rw [HB.out, HBw.out]; exact hmlt
   ·gi_wp2
    go_end0
    exact ⟨⟨_, rfl⟩, .inr ⟨k, hlen.1, hjx⟩⟩

theorem divisor_any (x y : Nat) (w : World) (hx : x < 18446744073709551616) (hy : y < 18446744073709551616) :
  Calls Tryz.prog 105 #[.int .u64 x, .int .u64 y] w fun e w' => e = .returned (.int .u64 (Nat.gcd x y)) /\ Under w.heap.size w w' := by
 by_cases h0 : y = 0
 ·subst h0
  refine calls_of_wpK Tryz.func105 rfl ?_
  simp only [Tryz.ntmps105, List.size_toArray, List.length_cons, List.length_nil, Nat.reduceAdd, Nat.reduceSub, Array.replicate_succ, Array.replicate_zero, List.push_toArray, List.append_toArray, List.nil_append, List.cons_append]
  go_wp2
  exact bodyPostK_ret0 (v := .int .u64 x) rfl (by simp [results, Tryz.results105, go_sem]) ⟨by rw [Nat.gcd_zero_right], (Kin.Under.refl _ _).alloc (Nat.le_refl _) _⟩
 ·have h1 : ((y : Int) == 0) = false := by simp; omega
  refine calls_of_wpK Tryz.func105 rfl ?_
  simp only [Tryz.ntmps105, List.size_toArray, List.length_cons, List.length_nil, Nat.reduceAdd, Nat.reduceSub, Array.replicate_succ, Array.replicate_zero, List.push_toArray, List.append_toArray, List.nil_append, List.cons_append]
  go_wp2_with (go_at_call 124; refine (remainders_any _ _ _).mono ?_; rintro e w' ⟨rfl, rfl⟩)
  obtain ⟨W0, hW0⟩ : ∃ W0, (((w.alloc (Obj.cells #[Value.int IntKind.u64 ↑y] 103)).alloc (Obj.cells #[Value.int IntKind.u64 ↑x] 103)).alloc (Obj.cells #[Value.int IntKind.u64 ↑y] 103)) = W0 := ⟨_, rfl⟩
  rw [hW0]
  have hb0 : Under w.heap.size w W0 := by rw [<- hW0]; exact (((Kin.Under.refl _ _).alloc (Nat.le_refl _) _).alloc (by simp) _).alloc (by simp; omega) _
  have hsz : W0.heap.size = w.heap.size + 3 := by rw [<- hW0]; simp
  have hx1 : Box W0 w.heap.size 103 (.int .u64 y) := by rw [<- hW0]; exact ((Box.new w 103 _).alloc _).alloc _
  have hx2 : Box W0 (w.heap.size + 1) 103 (.int .u64 x) := by
   rw [<- hW0]; have := Box.new (w.alloc (Obj.cells #[Value.int IntKind.u64 ↑y] 103)) 103 (.int .u64 x); rw [World.size_alloc] at this; exact this.alloc _
  have hx3 : Box W0 (w.heap.size + 1 + 1) 103 (.int .u64 y) := by
   rw [<- hW0]; have := Box.new ((w.alloc (Obj.cells #[Value.int IntKind.u64 ↑y] 103)).alloc (Obj.cells #[Value.int IntKind.u64 ↑x] 103)) 103 (.int .u64 y); rw [World.size_alloc, World.size_alloc] at this; exact this
  have hgcd := remL_gcd y x h0
  have HG := Lib.hid hgcd; clear hgcd
  clear hW0
  refine wp_rangeList (gf := 128) (lb := #[Value.pointer (some { block := w.heap.size + 1, off := 0 }), Value.pointer (some { block := w.heap.size + 1 + 1, off := 0 })]) rfl (enters_of Tryz.func128 (by kernel_rfl) rfl)
   (encs := fun x : Nat => #[.int .u64 x]) (xs := remL x y) (T := fun k => k = w.heap.size + 1 ∨ k = w.heap.size + 1 + 1) (R := fun k => k = w.heap.size + 1 ∨ k = w.heap.size + 1 + 1)
   (fun W hs => iter50 _ _ x y W (by omega) (hx2.keep hs trivial) (hx3.keep hs trivial) hx hy) (fun b hb => by omega) (fun b hb => by omega) (fun _ _ => rfl)
   (fun k W => Under w.heap.size w W /\ Box W w.heap.size 103 (.int .u64 (((remL x y).take k).getLastD y : Nat)))
   (fun _ _ _ => False)
   (fun k A B hs hk => ⟨hs.1.trans (hk.below hs.1.size (fun b hb => by omega)), hs.2.keep hk (by omega)⟩)
   (fun _ _ _ _ h _ => h)
   (fun W hs => ⟨hb0.trans (hs.below hb0.size (fun _ _ => trivial)), hx1.keep hs trivial⟩)
   (fun k W a' W' => W' = W /\ ∀ h : k < (remL x y).length, a' = Act.mk #[Value.int IntKind.u64 ↑x, Value.int IntKind.u64 ↑y, undef, undef, Value.pointer (some { block := w.heap.size, off := 0 }), Value.int .u64 ((remL x y)[k] : Nat), Value.int IntKind.u64 ↑y, Value.bool false, undef, Value.int IntKind.u64 ↑y, Value.int IntKind.u64 ↑x, Value.int IntKind.u64 ↑y, Value.func (Fn.func 128) #[] #[Value.pointer (some { block := w.heap.size + 1, off := 0 }), Value.pointer (some { block := w.heap.size + 1 + 1, off := 0 })], Value.int .u64 ((remL x y)[k] : Nat), undef, undef] []) ?assign ?body ?done ?stop
  case assign =>
   intro n k hk W K _ _ hK
   gi_wp2
   exact hK _ _ (Same.refl _ _) ⟨rfl, fun _ => rfl⟩
  case body =>
   rintro n k hk W a' W' W'' ⟨hb, hbox⟩ ⟨rfl, ha⟩ hs ⟨r, hr⟩
   rw [ha hk]
   have hbox' := hbox.keep hs (by omega)
   have hb' := hb.trans (hs.below hb.size (fun b hb => by omega))
   have hc := hbox'.cell
   have hf := hbox'.frozen
   have hlast : ((remL x y).take (k + 1)).getLastD y = (remL x y)[k] := by
    rw [List.take_succ_eq_append_getElem hk, List.getLastD_concat]
   have HL := Lib.hid hlast; clear hlast
   clear hs hbox hb ha
   gi_wp2
   refine ⟨Same.setCell _ _ _ (by simp; omega), hb'.setCell (by simp) _, ?_⟩
   rw [HL.out]; exact hbox'.set _
  case done =>
   rintro W ⟨hb, hbox⟩ hD
   rw [List.take_length, HG.out] at hbox
   have hc := hbox.cell
   have hf := hbox.frozen
   go_wp2
   have hbx := hbox.set (.int .u64 (x.gcd y))
   have hD2 : (W.setCell ⟨w.heap.size, 0, none⟩ (.int .u64 (x.gcd y))).heap[W0.heap.size]? = some (Obj.deferred (some [])) := (Go.RowKit.Below.heap_setCell W ⟨w.heap.size, 0, none⟩ _ _ (by show W0.heap.size ≠ w.heap.size; omega)).trans hD
   have hc2 := (hbx.keep (Same.putObj (D := fun b => b ≠ W0.heap.size) _ W0.heap.size (.deferred none) (fun h => h rfl)) (by omega)).cell
   refine bodyPostK_ret1 (v := .int .u64 (x.gcd y)) rfl hD2 (by simp [results, Tryz.results105, go_sem, hc2]) ⟨rfl, ?_⟩
   exact (hb.setCell (by simp) _).trans ((Same.putObj (D := fun b => b ≠ W0.heap.size) _ _ _ (fun h => h rfl)).below (by have := hb.size; simp [World.setCell]; omega) (fun b hb => by omega))
  case stop =>
   intro c k W _ h _
   exact h.elim
/-- at integers -/
theorem divisor_int (x y : Int) (w : World) (hx : 0 <= x) (hx' : x < 18446744073709551616) (hy : 0 <= y) (hy' : y < 18446744073709551616) :
  Calls Tryz.prog 105 #[.int .u64 x, .int .u64 y] w fun e w' => e = .returned (.int .u64 (Nat.gcd x.natAbs y.natAbs)) /\ Under w.heap.size w w' := by
 have h := divisor_any x.natAbs y.natAbs w (by omega) (by omega)
 rw [show ((x.natAbs : Nat) : Int) = x by omega, show ((y.natAbs : Nat) : Int) = y by omega] at h
 exact h
end R12
end Go.Proofs

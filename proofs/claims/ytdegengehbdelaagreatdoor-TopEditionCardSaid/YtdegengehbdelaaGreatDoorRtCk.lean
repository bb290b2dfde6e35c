/- The iterator `remainders` and `divisor` walked. -/
import Derived.Test.YtdegengehbdelaaGreatDoorProg
import Derived.Test.YtdegengehbdelaaGreatDoorGenCell
import Derived.Test.YtdegengehbdelaaGreatDoorRtNum
import Derived.WalkKit
import Derived.WalkSpells
import Derived.WalkLawsBesides
import Derived.TacticsInMore
import Derived.LoopNIn
import Derived.LoopIn
import Derived.BigQuiet
import Derived.Deep.QuietTactic
import Derived.Lib.Hide
set_option maxRecDepth 100000
set_option maxHeartbeats 400000000
set_option linter.unusedSectionVars false
set_option linter.unusedVariables false
set_option linter.unusedSimpArgs false
namespace Go.Proofs
open Go.RowKit Go.Shelf Go.Kin
namespace R12
attribute [local go_sem] Oper.semAt_some

theorem remainders_any (x y : Nat) (w : World) :
  Calls Tryz.prog 116 #[.int .u64 x, .int .u64 y] w fun e w' => e = .returned (.func (.func 117) #[] #[.pointer (some ⟨w.heap.size, 0, none⟩), .pointer (some ⟨w.heap.size + 1, 0, none⟩)]) /\
   w' = (w.alloc (.cells #[.int .u64 x] 127 (0, 0))).alloc (.cells #[.int .u64 y] 127 (0, 0)) := by
 go_enter Tryz.func116, Tryz.ntmps116
 go_wp2
 go_ret
 exact ⟨rfl, rfl⟩

def boxN (W : World) (b : Nat) : Nat := match W.cell? ⟨b, 0, none⟩ with | some (.int _ n) => n.toNat | _ => 0
theorem boxN_of {W : World} {b : Nat} {t : TypeId} {k : IntKind} {n : Nat} (h : Box W b t (.int k n)) : boxN W b = n := by
 unfold boxN; rw [h.cell]; simp
theorem iter50 (ba bb a b : Nat) (W : World) (hne : ba ≠ bb) (ha : Box W ba 127 (.int .u64 a)) (hb : Box W bb 127 (.int .u64 b)) (hla : a < 18446744073709551616) (hlb : b < 18446744073709551616) :
  Iter Tryz.prog 117 #[.pointer (some ⟨ba, 0, none⟩), .pointer (some ⟨bb, 0, none⟩)] (fun x : Nat => #[.int .u64 x]) (remL a b) (fun k => k = ba ∨ k = bb) (fun k => k = ba ∨ k = bb) W := by
 intro n l J Jx hJ hJx hY h0
 have HY := Lib.hid hY; clear hY
 have HJ := Lib.hid hJ; clear hJ
 have HJx := Lib.hid hJx; clear hJx
 have HL : Hid (remL a b = List.take 0 (remL a b) ++ remL a b) := Lib.hid (by simp)
 refine (callsIn_wide (n := n + 1)).1 (callsIn_of_wp Tryz.func117 rfl trivial ?_ rfl)
 simp only [Tryz.ntmps117, List.size_toArray, List.length_cons, List.length_nil, Nat.reduceAdd, Nat.reduceSub, Array.replicate_succ, Array.replicate_zero, List.push_toArray, List.append_toArray, List.nil_append, List.cons_append]
 gi_wp2
 gi_loopw [4] (fun _ wr => ∃ k p q : Nat, J k wr /\ Box wr ba 127 (.int .u64 p) /\ Box wr bb 127 (.int .u64 q) /\ p < 18446744073709551616 /\ q < 18446744073709551616 /\ Hid (remL a b = (remL a b).take k ++ remL p q) /\ k <= (remL a b).length)
  (fun _ wr => boxN wr bb)
 case atStart => exact ⟨0, a, b, h0, ha, hb, hla, hlb, HL, Nat.zero_le _⟩
 case round =>
  obtain ⟨k, p, q, hj, hp, hq, hlp, hlq, HK, hk⟩ := hrel
  have hc1 := hp.cell
  have hc2 := hq.cell
  by_cases hp0 : p = 0
  ·subst hp0
   gi_wp2
   refine ⟨fun _ _ => trivial, ?_⟩
   gi_wp2
   go_end0
   rw [remL_zero, List.append_nil] at HK
   have hkl : k = (remL a b).length := by
    have h1 := congrArg List.length HK.out
    rw [List.length_take] at h1; omega
   exact ⟨⟨_, rfl⟩, .inl (hkl ▸ hj)⟩
  ·have hp1 : ((p : Int) == 0) = false := by simp; omega
   have hp2 : ((p : Int) != 0) = true := by simp; omega
   have hlen : k < (remL a b).length /\ ∀ h, (remL a b)[k]'h = p := by
    have h1 := HK.out
    have h2 : ∃ r, remL p q = p :: r := by
     by_cases h : p % max q 1 = 0
     ·exact ⟨_, remL_last p q hp0 h⟩
     ·exact ⟨_, remL_next p q hp0 h⟩
    obtain ⟨r, hr⟩ := h2
    rw [hr] at h1
    have h3 : k < (remL a b).length := by
     have := congrArg List.length h1
     rw [List.length_append, List.length_take, List.length_cons] at this; omega
    refine ⟨h3, fun h => ?_⟩
    have h4 : (remL a b)[k]? = (List.take k (remL a b) ++ p :: r)[k]? := congrArg (·[k]?) h1
    rw [List.getElem?_append_right (by rw [List.length_take]; omega), List.length_take, Nat.min_eq_left hk, Nat.sub_self, List.getElem?_eq_getElem h] at h4
    simpa using h4
   have hYk := HY.out k hlen.1 wr hj
   rw [hlen.2] at hYk
   obtain ⟨fn, tmps, assign, body, hy, hR⟩ := hYk
   gi_wp2_with fail
   refine hR.mono ?_
   rintro e W3 (⟨rfl, hj3, hs3⟩ | ⟨rfl, hjx⟩)
   ·have hp3 := hp.keep hs3 (.inl rfl)
    have hq3 := hq.keep hs3 (.inr rfl)
    have hc3 := hp3.cell
    have hc4 := hq3.cell
    have hf3 := hp3.frozen
    have hf4 := hq3.frozen
    clear hc1 hc2 hy hR
    have hmx : ((max (q : Int) 1)) = ((max q 1 : Nat) : Int) := by omega
    have hq1 : ((max q 1 : Nat) : Int) ≠ 0 := by omega
    gi_wp2_with fail
    gi_region
    have hmx : (if (q : Int) < 1 then 1 else (q : Int)) = ((max q 1 : Nat) : Int) := by omega
    have hmm : (p : Int) % ((max q 1 : Nat) : Int) = ((p % max q 1 : Nat) : Int) := by omega
    simp only [hmx, hmm]
    clear hmx hmm hc3 hc4 hf3 hf4
    have hsT : Same (fun b => ¬(b = ba ∨ b = bb)) W3 ((W3.setCell ⟨ba, 0, none⟩ (.int .u64 q)).setCell ⟨bb, 0, none⟩ (.int .u64 ((p % max q 1 : Nat) : Int))).drew :=
     ((Same.setCell _ _ _ (fun h => h (.inl rfl))).trans (Same.setCell _ _ _ (fun h => h (.inr rfl)))).trans (Same.drew _ _)
    have hb4 : Box ((W3.setCell ⟨ba, 0, none⟩ (.int .u64 q)).setCell ⟨bb, 0, none⟩ (.int .u64 ((p % max q 1 : Nat) : Int))).drew bb 127 (.int .u64 ((p % max q 1 : Nat) : Int)) :=
     (hq3.other (Ne.symm hne) 0 _).set _
    have hb3 : Box ((W3.setCell ⟨ba, 0, none⟩ (.int .u64 q)).setCell ⟨bb, 0, none⟩ (.int .u64 ((p % max q 1 : Nat) : Int))).drew ba 127 (.int .u64 q) :=
     (hp3.set _).other hne 0 _
    generalize ((W3.setCell ⟨ba, 0, none⟩ (.int .u64 q)).setCell ⟨bb, 0, none⟩ (.int .u64 ((p % max q 1 : Nat) : Int))).drew = W4 at hsT hb4 hb3 ⊢
    have hj4 := HJ.out _ _ _ hj3 hsT
    clear hsT hj3 hp3 hq3 hs3
    have hlm : p % max q 1 < 18446744073709551616 := Nat.lt_of_le_of_lt (Nat.mod_le _ _) hlp
    by_cases hz : p % max q 1 = 0
    ·have h2 := remL_last p q hp0 hz
     have hlen2 : (remL a b).length = k + 2 /\ ∀ h, (remL a b)[k + 1]'h = q := by
      have h1 := HK.out
      rw [h2] at h1
      have h3 : (remL a b).length = k + 2 := by
       have := congrArg List.length h1
       rw [List.length_append, List.length_take] at this; simp at this; omega
      refine ⟨h3, fun h => ?_⟩
      have h4 : (remL a b)[k + 1]? = (List.take k (remL a b) ++ [p, q])[k + 1]? := congrArg (·[k + 1]?) h1
      rw [List.getElem?_append_right (by rw [List.length_take]; omega), List.length_take, Nat.min_eq_left hk, List.getElem?_eq_getElem h] at h4
      simpa using h4
     have hYk := HY.out (k + 1) (by omega) W4 hj4
     rw [hlen2.2] at hYk
     obtain ⟨fn, tmps, assign, body, hy, hR⟩ := hYk
     rw [hz] at hb4 ⊢
     have hc3 := hb3.cell
     have hc4 := hb4.cell
     have hz0 : (((0 : Nat) : Int) == 0) = true := rfl
     clear h2 HK
     gi_wp2_with fail
     refine hR.mono ?_
     rintro e W5 (⟨rfl, hj5, _⟩ | ⟨rfl, hjx⟩)
     ·gi_wp2
      exact bodyPost_ret (results_none rfl _ _ _) rfl ⟨⟨_, rfl⟩, .inl (by rw [hlen2.1]; exact hj5)⟩
     ·gi_wp2
      exact bodyPost_ret (results_none rfl _ _ _) rfl ⟨⟨_, rfl⟩, .inr ⟨k + 1, by omega, hjx⟩⟩
    ·have hn := remL_next p q hp0 hz
     have HK2 : Hid (remL a b = (remL a b).take (k + 1) ++ remL q (p % max q 1)) := Lib.hid (by
      have h1 := HK.out
      rw [hn] at h1
      rw [List.take_succ_eq_append_getElem hlen.1, hlen.2, List.append_assoc]
      exact h1)
     have hq0 : q ≠ 0 := by intro e; subst e; exact hz (by simp [Nat.mod_one])
     have hmlt : p % max q 1 < q := by
      have : max q 1 = q := by omega
      rw [this]; exact Nat.mod_lt _ (by omega)
     have hbn := boxN_of hb4
     have hbw := boxN_of hq
     have HB := Lib.hid hbn; clear hbn
     have HBw := Lib.hid hbw; clear hbw
     have hkl := hlen.1
     clear hn HK hlen
     generalize p % max q 1 = m at hlm hz HK2 hmlt hb4 hb3 HB ⊢
     have hc3 := hb3.cell
     have hc4 := hb4.cell
     have hz1 : ((m : Int) == 0) = false := by simp; omega
     gi_wp2
     go_roundw
     case rel => exact ⟨k + 1, q, m, hj4, hb3, hb4, hlq, hlm, HK2, by omega⟩
     case measure => rw [HB.out, HBw.out]; exact hmlt
   ·gi_wp2
    go_end0
    exact ⟨⟨_, rfl⟩, .inr ⟨k, hlen.1, hjx⟩⟩

theorem divisor_any (x y : Nat) (w : World) (hx : x < 18446744073709551616) (hy : y < 18446744073709551616) :
  Calls Tryz.prog 112 #[.int .u64 x, .int .u64 y] w fun e w' => e = .returned (.int .u64 (Nat.gcd x y)) /\ Below w.heap.size w w' := by
 by_cases h0 : y = 0
 ·subst h0
  refine calls_of_wpK Tryz.func112 rfl ?_
  simp only [Tryz.ntmps112, List.size_toArray, List.length_cons, List.length_nil, Nat.reduceAdd, Nat.reduceSub, Array.replicate_succ, Array.replicate_zero, List.push_toArray, List.append_toArray, List.nil_append, List.cons_append]
  go_wp2
  exact bodyPostK_ret0 (v := .int .u64 x) rfl (by simp [results, Tryz.results112, go_sem]) ⟨by rw [Nat.gcd_zero_right], (Below.refl _ _).alloc (Nat.le_refl _) _⟩
 ·have h1 : ((y : Int) == 0) = false := by simp; omega
  refine calls_of_wpK Tryz.func112 rfl ?_
  simp only [Tryz.ntmps112, List.size_toArray, List.length_cons, List.length_nil, Nat.reduceAdd, Nat.reduceSub, Array.replicate_succ, Array.replicate_zero, List.push_toArray, List.append_toArray, List.nil_append, List.cons_append]
  go_wp2_with (go_at_call 116; refine (remainders_any _ _ _).mono ?_; rintro e w' ⟨rfl, rfl⟩)
  obtain ⟨W0, hW0⟩ : ∃ W0, (((w.alloc (Obj.cells #[Value.int IntKind.u64 ↑y] 127)).alloc (Obj.cells #[Value.int IntKind.u64 ↑x] 127)).alloc (Obj.cells #[Value.int IntKind.u64 ↑y] 127)) = W0 := ⟨_, rfl⟩
  rw [hW0]
  have hb0 : Below w.heap.size w W0 := by rw [<- hW0]; exact (((Below.refl _ _).alloc (Nat.le_refl _) _).alloc (by simp) _).alloc (by simp; omega) _
  have hsz : W0.heap.size = w.heap.size + 3 := by rw [<- hW0]; simp
  have hx1 : Box W0 w.heap.size 127 (.int .u64 y) := by rw [<- hW0]; exact ((Box.new w 127 _).alloc _).alloc _
  have hx2 : Box W0 (w.heap.size + 1) 127 (.int .u64 x) := by
   rw [<- hW0]; have := Box.new (w.alloc (Obj.cells #[Value.int IntKind.u64 ↑y] 127)) 127 (.int .u64 x); rw [World.size_alloc] at this; exact this.alloc _
  have hx3 : Box W0 (w.heap.size + 1 + 1) 127 (.int .u64 y) := by
   rw [<- hW0]; have := Box.new ((w.alloc (Obj.cells #[Value.int IntKind.u64 ↑y] 127)).alloc (Obj.cells #[Value.int IntKind.u64 ↑x] 127)) 127 (.int .u64 y); rw [World.size_alloc, World.size_alloc] at this; exact this
  have hgcd := remL_gcd y x h0
  have HG := Lib.hid hgcd; clear hgcd
  clear hW0
  refine wp_rangeList (gf := 117) (lb := #[Value.pointer (some { block := w.heap.size + 1, off := 0 }), Value.pointer (some { block := w.heap.size + 1 + 1, off := 0 })]) rfl (enters_of Tryz.func117 (by kernel_rfl) rfl)
   (encs := fun x : Nat => #[.int .u64 x]) (xs := remL x y) (T := fun k => k = w.heap.size + 1 ∨ k = w.heap.size + 1 + 1) (R := fun k => k = w.heap.size + 1 ∨ k = w.heap.size + 1 + 1)
   (fun W hs => iter50 _ _ x y W (by omega) (hx2.keep hs trivial) (hx3.keep hs trivial) hx hy) (fun b hb => by omega) (fun b hb => by omega) (fun _ _ => rfl)
   (fun k W => Below w.heap.size w W /\ Box W w.heap.size 127 (.int .u64 (((remL x y).take k).getLastD y : Nat)))
   (fun _ _ _ => False)
   (fun k A B hs hk => ⟨hs.1.trans (hk.below hs.1.size (fun b hb => by omega)), hs.2.keep hk (by omega)⟩)
   (fun _ _ _ _ h _ => h)
   (fun W hs => ⟨hb0.trans (hs.below hb0.size (fun _ _ => trivial)), hx1.keep hs trivial⟩)
   (fun k W a' W' => W' = W /\ ∀ h : k < (remL x y).length, a' = Act.mk #[Value.int IntKind.u64 ↑x, Value.int IntKind.u64 ↑y, undef, undef, Value.pointer (some { block := w.heap.size, off := 0 }), Value.int .u64 ((remL x y)[k] : Nat), Value.int IntKind.u64 ↑y, Value.bool false, undef, Value.int IntKind.u64 ↑y, Value.int IntKind.u64 ↑x, Value.int IntKind.u64 ↑y, Value.func (Fn.func 117) #[] #[Value.pointer (some { block := w.heap.size + 1, off := 0 }), Value.pointer (some { block := w.heap.size + 1 + 1, off := 0 })], Value.int .u64 ((remL x y)[k] : Nat), undef, undef] []) ?assign ?body ?done ?stop
  case assign =>
   intro n k hk W K _ _ hK
   gi_wp2
   exact hK _ _ (Same.refl _ _) ⟨rfl, fun _ => rfl⟩
  case body =>
   rintro n k hk W a' W' W'' ⟨hb, hbox⟩ ⟨rfl, ha⟩ hs ⟨r, hr⟩
   rw [ha hk]
   have hbox' := hbox.keep hs (by omega)
   have hb' := hb.trans (hs.below hb.size (fun b hb => by omega))
   have hc := hbox'.cell
   have hf := hbox'.frozen
   have hlast : ((remL x y).take (k + 1)).getLastD y = (remL x y)[k] := by
    rw [List.take_succ_eq_append_getElem hk, List.getLastD_concat]
   have HL := Lib.hid hlast; clear hlast
   clear hs hbox hb ha
   gi_wp2
   refine ⟨Same.setCell _ _ _ (by simp; omega), hb'.setCell (by simp) _, ?_⟩
   rw [HL.out]; exact hbox'.set _
  case done =>
   rintro W ⟨hb, hbox⟩ hD
   rw [List.take_length, HG.out] at hbox
   have hc := hbox.cell
   have hf := hbox.frozen
   go_wp2
   have hbx := hbox.set (.int .u64 (x.gcd y))
   have hD2 : (W.setCell ⟨w.heap.size, 0, none⟩ (.int .u64 (x.gcd y))).heap[W0.heap.size]? = some (Obj.deferred (some [])) := (Below.heap_setCell W ⟨w.heap.size, 0, none⟩ _ _ (by show W0.heap.size ≠ w.heap.size; omega)).trans hD
   have hc2 := (hbx.keep (Same.putObj (D := fun b => b ≠ W0.heap.size) _ W0.heap.size (.deferred none) (fun h => h rfl)) (by omega)).cell
   refine bodyPostK_ret1 (v := .int .u64 (x.gcd y)) rfl hD2 (by simp [results, Tryz.results112, go_sem, hc2]) ⟨rfl, ?_⟩
   exact (hb.setCell (by simp) _).trans ((Same.putObj (D := fun b => b ≠ W0.heap.size) _ _ _ (fun h => h rfl)).below (by have := hb.size; simp [World.setCell]; omega) (fun b hb => by omega))
  case stop =>
   intro c k W _ h _
   exact h.elim
/-- at integers -/
theorem divisor_int (x y : Int) (w : World) (hx : 0 <= x) (hx' : x < 18446744073709551616) (hy : 0 <= y) (hy' : y < 18446744073709551616) :
  Calls Tryz.prog 112 #[.int .u64 x, .int .u64 y] w fun e w' => e = .returned (.int .u64 (Nat.gcd x.natAbs y.natAbs)) /\ Below w.heap.size w w' := by
 have h := divisor_any x.natAbs y.natAbs w (by omega) (by omega)
 rw [show ((x.natAbs : Nat) : Int) = x by omega, show ((y.natAbs : Nat) : Int) = y by omega] at h
 exact h
end R12
end Go.Proofs

namespace Go.Proofs
namespace R12
def okB (n d : Int) : Bool := decide (1 <= d /\ d <= 1073741824 /\ -1073741824 <= n /\ n <= 1073741824 /\ Nat.gcd n.natAbs d.natAbs = 1)
theorem okB_iff {n d : Int} : okB n d = true ↔ 1 <= d /\ d <= 1073741824 /\ -1073741824 <= n /\ n <= 1073741824 /\ Nat.gcd n.natAbs d.natAbs = 1 := by simp [okB]
theorem mul_bd {a b : Int} {A B : Nat} (ha : a.natAbs <= A) (hb : b.natAbs <= B) : -((A * B : Nat) : Int) <= a * b /\ a * b <= ((A * B : Nat) : Int) := by
 have h : (a * b).natAbs <= A * B := by rw [Int.natAbs_mul]; exact Nat.mul_le_mul ha hb
 omega
theorem mul30 {a b : Int} (h1 : -1073741824 <= a) (h2 : a <= 1073741824) (h3 : -1073741824 <= b) (h4 : b <= 1073741824) : -1152921504606846976 <= a * b /\ a * b <= 1152921504606846976 := by
 have := mul_bd (a := a) (b := b) (A := 1073741824) (B := 1073741824) (by omega) (by omega)
 simpa using this
end R12
end Go.Proofs

set_option maxRecDepth 100000
set_option maxHeartbeats 400000000
namespace Go.Proofs
open Go.RowKit Go.Shelf Go.Kin
namespace R12
theorem ret_val {a b : Value} (h : a = b) : Ending.returned a = Ending.returned b := by rw [h]
def i64 (n : Int) : Prop := -9223372036854775808 <= n /\ n <= 9223372036854775807
theorem magnitude_any (n : Int) (w : World) (h1 : -9223372036854775808 <= n) (h2 : n <= 9223372036854775807) :
  Calls Tryz.prog 113 #[.int .i64 n] w fun e w' => e = .returned (.int .u64 n.natAbs) /\ w' = w := by
 by_cases hn : n < 0
 ·have e1 : IntKind.u64.wrap (-IntKind.u64.wrap n) = (n.natAbs : Int) := by
   simp only [IntKind.wrap, IntKind.bits, IntKind.signed]; simp; omega
  have E1 := Lib.hid e1; clear e1
  go_enter Tryz.func113, Tryz.ntmps113
  go_wp2
  go_ret
  exact ⟨ret_val (by show Value.int _ _ = _; rw [E1.out]), rfl⟩
 ·go_enter Tryz.func113, Tryz.ntmps113
  go_wp2
  go_ret
  exact ⟨ret_val (by show Value.int _ _ = _; congr 1; omega), rfl⟩

end R12
end Go.Proofs

set_option maxRecDepth 100000
set_option maxHeartbeats 400000000
namespace Go.Proofs
open Go.RowKit Go.Shelf Go.Kin
namespace R12
def chkE (n d : Int) : Int := if okB n d then 0 else 120
theorem chkE_bad {n d : Int} (h : ¬ (1 <= d /\ d <= 1073741824 /\ -1073741824 <= n /\ n <= 1073741824 /\ Nat.gcd n.natAbs d.natAbs = 1)) : chkE n d = 120 := by
 unfold chkE; rw [if_neg]; rw [okB_iff]; exact h
theorem chkE_good {n d : Int} (h : 1 <= d /\ d <= 1073741824 /\ -1073741824 <= n /\ n <= 1073741824 /\ Nat.gcd n.natAbs d.natAbs = 1) : chkE n d = 0 := by
 unfold chkE; rw [if_pos]; rw [okB_iff]; exact h
theorem check_b1 (n d : Int) (w : World) (h : d < 1) :
  Calls Tryz.prog 103 #[.agg #[.int .i64 n, .int .i64 d]] w fun e w' => e = .returned (.int .i64 120) /\ Below w.heap.size w w' := by
 have e0 : decide (d < 1) = true := by simp; omega
 go_enter Tryz.func103, Tryz.ntmps103
 go_wp2
 go_quiet (fail)
 go_wp2
 go_ret
 exact ⟨rfl, Kin.Below.drewNC (Kin.Below.allocC (Below.refl _ _) (Nat.le_refl _))⟩
theorem check_b2 (n d : Int) (w : World) (c : 1 <= d) (h : 1073741824 < d) :
  Calls Tryz.prog 103 #[.agg #[.int .i64 n, .int .i64 d]] w fun e w' => e = .returned (.int .i64 120) /\ Below w.heap.size w w' := by
 have e0 : decide (d < 1) = false := by simp; omega
 have e1 : decide (1073741824 < d) = true := by simp; omega
 go_enter Tryz.func103, Tryz.ntmps103
 go_wp2
 go_quiet (fail)
 go_wp2
 go_ret
 exact ⟨rfl, Kin.Below.drewNC (Kin.Below.allocC (Below.refl _ _) (Nat.le_refl _))⟩
theorem check_b3 (n d : Int) (w : World) (c : 1 <= d) (c' : d <= 1073741824) (h : n < -1073741824) :
  Calls Tryz.prog 103 #[.agg #[.int .i64 n, .int .i64 d]] w fun e w' => e = .returned (.int .i64 120) /\ Below w.heap.size w w' := by
 have e0 : decide (d < 1) = false := by simp; omega
 have e1 : decide (1073741824 < d) = false := by simp; omega
 have e2 : decide (n < -1073741824) = true := by simp; omega
 go_enter Tryz.func103, Tryz.ntmps103
 go_wp2
 go_quiet (fail)
 go_wp2
 go_ret
 exact ⟨rfl, Kin.Below.drewNC (Kin.Below.allocC (Below.refl _ _) (Nat.le_refl _))⟩
theorem check_b4 (n d : Int) (w : World) (c : 1 <= d) (c' : d <= 1073741824) (c'' : -1073741824 <= n) (h : 1073741824 < n) :
  Calls Tryz.prog 103 #[.agg #[.int .i64 n, .int .i64 d]] w fun e w' => e = .returned (.int .i64 120) /\ Below w.heap.size w w' := by
 have e0 : decide (d < 1) = false := by simp; omega
 have e1 : decide (1073741824 < d) = false := by simp; omega
 have e2 : decide (n < -1073741824) = false := by simp; omega
 have e3 : decide (1073741824 < n) = true := by simp; omega
 go_enter Tryz.func103, Tryz.ntmps103
 go_wp2
 go_quiet (fail)
 go_wp2
 go_ret
 exact ⟨rfl, Kin.Below.drewNC (Kin.Below.allocC (Below.refl _ _) (Nat.le_refl _))⟩
theorem check_ok (n d : Int) (w : World) (c1 : 1 <= d) (c2 : d <= 1073741824) (c3 : -1073741824 <= n) (c4 : n <= 1073741824) :
  Calls Tryz.prog 103 #[.agg #[.int .i64 n, .int .i64 d]] w fun e w' => e = .returned (.int .i64 (chkE n d)) /\ Below w.heap.size w w' := by
  go_enter Tryz.func103, Tryz.ntmps103
  go_wp2
  obtain ⟨w1, hw1⟩ : ∃ w1, w.alloc (Obj.cells #[Value.int IntKind.i64 n, Value.int IntKind.i64 d] 50) = w1 := ⟨_, rfl⟩
  have hc0 : w1.cell? ⟨w.heap.size, 0, none⟩ = some (.int .i64 n) := by rw [<- hw1]; simp [go_sem]
  have hc1 : w1.cell? ⟨w.heap.size, 1, none⟩ = some (.int .i64 d) := by rw [<- hw1]; simp [go_sem]
  have hsz : w.heap.size + 1 = w1.heap.size := by rw [<- hw1]; simp
  have hB : Below w.heap.size w w1 := by rw [<- hw1]; exact (Below.refl _ _).alloc (Nat.le_refl _) _
  rw [hw1]
  clear hw1
  have hwr : IntKind.u64.wrap d = d := by simp only [IntKind.wrap, IntKind.bits, IntKind.signed]; simp; omega
  have d1 : decide (d < 1) = false := by simp; omega
  have d2 : decide (1073741824 < d) = false := by simp; omega
  have d3 : decide (n < -1073741824) = false := by simp; omega
  have d4 : decide (1073741824 < n) = false := by simp; omega
  refine wp_region_quiet (C := Later w1) (by decide +kernel) (by decide +kernel) (Later.drew1 _) ?_
  repeat (refine wpQuiet_step (fun K hK => ?_); go_simp; first|(refine hK _ ?_; clear hK K)|(apply Exists.intro; refine ⟨fun W hW => ?_, hK _ ?_⟩; (first|(go_at_call 113; refine (magnitude_any _ _ (by omega) (by omega)).mono ?_; rintro e w' ⟨rfl, rfl⟩; exact ⟨rfl, hW⟩)|(go_at_call 112; refine (divisor_int _ _ _ (by omega) (by omega) (by omega) (by omega)).mono ?_; rintro e w' ⟨rfl, hb⟩; exact ⟨rfl, hW.step hb⟩)|(have e0 := Later.cell hW hc0; have e1 := Later.cell hW hc1; clear hW; go_simp; first|exact rfl|exact ⟨rfl, rfl⟩)); clear hK K))
  refine wpQuiet_nil ?_
  intro W1 hW1
  have hB1 := hW1.below hB (by rw [<- hsz]; exact Nat.le_succ _)
  clear hwr d1 d2 d3 d4
  by_cases hg : Nat.gcd n.natAbs d.natAbs = 1
  ·have H : Hid (chkE n d = 0) := Lib.hid (chkE_good ⟨c1, c2, c3, c4, hg⟩)
   rw [hg]
   go_wp2
   go_ret
   exact ⟨by rw [H.out]; rfl, hB1⟩
  ·have H : Hid (chkE n d = 120) := Lib.hid (chkE_bad (fun h => hg h.2.2.2.2))
   have hg1 : (((Nat.gcd n.natAbs d.natAbs : Nat) : Int) != 1) = true := by simp; omega
   generalize Nat.gcd n.natAbs d.natAbs = g at *
   go_wp2
   go_ret
   exact ⟨by rw [H.out]; rfl, hB1⟩
theorem check_any (n d : Int) (w : World) (_h1 : -9223372036854775808 <= n) (_h2 : n <= 9223372036854775807) (_h3 : -9223372036854775808 <= d) (_h4 : d <= 9223372036854775807) :
  Calls Tryz.prog 103 #[.agg #[.int .i64 n, .int .i64 d]] w fun e w' => e = .returned (.int .i64 (chkE n d)) /\ Below w.heap.size w w' := by
 by_cases c1 : d < 1
 ·rw [chkE_bad (by omega)]; exact check_b1 n d w c1
 ·by_cases c2 : 1073741824 < d
  ·rw [chkE_bad (by omega)]; exact check_b2 n d w (by omega) c2
  ·by_cases c3 : n < -1073741824
   ·rw [chkE_bad (by omega)]; exact check_b3 n d w (by omega) (by omega) c3
   ·by_cases c4 : 1073741824 < n
    ·rw [chkE_bad (by omega)]; exact check_b4 n d w (by omega) (by omega) (by omega) c4
    ·exact check_ok n d w (by omega) (by omega) (by omega) (by omega)
end R12
end Go.Proofs

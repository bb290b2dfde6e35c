/-
 For every input, from witnesses to the edition: nothing is more parsimonious, and what all witnesses have is in it: TopEdition returns true, and its arguments read as before. No condition on the arguments; the two listed tables of math/bits hold what the program's text lays (tied by the card).
-/
import Derived.Test.YtdegengehbdelaaGreatDoorRows
import Derived.Test.YtdegengehbdelaaGreatDoorCards
import Derived.Test.YtdegengehbdelaaGreatDoorTie
import Derived.Test.YtdegengehbdelaaGreatDoorTeE
import Derived.Test.YtdegengehbdelaaGreatDoorTeF
import Derived.WalkKit
import Derived.ProofKit
import Derived.OpenShut
import Derived.Lib.SmallJoins
import Derived.ShutString
import Derived.ChangeOld
import Derived.Below
import Derived.LaidMore
import Derived.Lay
import Derived.SevenTiedAt
import Derived.Stop.Joined
set_option maxRecDepth 100000
set_option maxHeartbeats 400000000
set_option linter.unusedSectionVars false
set_option linter.unusedVariables false
set_option linter.unusedSimpArgs false
namespace Go.Proofs.YtdegengehbdelaaGreatDoor.topEdition
open Go.ChangeShapes Go.WideShapes Go.ChangeAt Go.RowKit Go.Kin Go.Kin.Cl

theorem own : ownKnob Tryz.prog.godebug = none := by kernel_rfl
theorem laidOut : laidOutB Tryz.prog = true := by kernel_rfl
theorem trod_lt_any {H : Type} {enc : TypeId × Value -> H} {W : World} {t : TypeId} {v : Value} {d : DataW H} {p : List MemPlace} (k : DataW.Trod enc Tryz.prog W 0 (fun _ => true) true t v d p) : ∀ x ∈ p, x.block < W.heap.size := by
 obtain ⟨m, hm⟩ := k; exact DataW.trod_lt m _ _ _ hm

theorem nat16 {a : Int} (h : (Lit.int IntKind.u16 a).wf = true) : ∃ n : Nat, a = (n : Int) /\ n < 65536 := by
 simp only [Lit.wf, Bool.and_eq_true, decide_eq_true_eq] at h
 have h1 : (0 : Int) <= a := h.1
 have h2 : a <= 65535 := h.2
 exact ⟨a.toNat, by omega, by omega⟩
theorem lifted (os : Os) (started : os.Started) (H : Type) (enc : TypeId × Value -> H) :
  ReturnsInHanded {} Tryz.checked os 3 .any (fun w args => (Rows.topEditionSpec.pre enc Tryz.prog Tryz.f3 Rows.topEditionRow.domain false w args /\ laidMetH Tryz.prog R41.laidL w) /\ sizedMet enc Tryz.prog Tryz.f3 (OpenSpec.ofChange Rows.topEditionSpec) false w args)
   (Rows.topEditionSpec.post enc Tryz.prog Tryz.f3 false true false false) := by
 refine returnsInHanded_of_change_and (C := Tryz.checked) (X := fun w _ => laidMetH Tryz.prog R41.laidL w) (fun _ _ _ hh h => h.of_heap hh) own started (by kernel_rfl) Tryz.func3
  (ChangeSpec.witness_shaped (enc := enc) (C := Tryz.checked) (os := os) (X := fun w _ => laidMetH Tryz.prog R41.laidL w) false (World.laidAll Tryz.prog os R41.laidL) #[.slice none 0 0, .int .u16 0, .int .u16 0, .int .u16 0] 8 (World.laidAll_os _ _ _)
   (World.shaped_of_ZipB (by kernel_rfl) (by kernel_rfl)) (by kernel_rfl) (by kernel_rfl) (by kernel_rfl)
   (by rw [MakeChecks.laidMetH_plain _ _ _ (by kernel_rfl)]; exact laidMet_laidAll _ (by kernel_rfl) (by kernel_rfl))) ?_
 intro W base args ds gs before hval0 hW _ _ hL _
 have hval : ∀ (j : Nat) t v, Tryz.f3.params[j]? = some t -> args[j]? = some v -> Value.okWide Tryz.prog W .any base t v := hval0
 have hW' := hW
 obtain ⟨p, q, hA0, hV, rfl, _, _⟩ := hW
 have hA : DataW.TrodAll enc Tryz.prog W 0 (fun _ => true) true Tryz.f3.params.toList args.toList ds p := hA0
 rw [Tryz.params3] at hA hval
 obtain ⟨v0, vs0, d0, ds0, p0, q0, hargs, rfl, rfl, h0, r0⟩ := trodAll_cons hA
 obtain ⟨v1, vs1, d1, ds1, p1, q1, rfl, rfl, rfl, h1, r1⟩ := trodAll_cons r0
 obtain ⟨v2, vs2, d2, ds2, p2, q2, rfl, rfl, rfl, h2, r2⟩ := trodAll_cons r1
 obtain ⟨v3, vs3, d3, ds3, p3, q3, rfl, rfl, rfl, h3, r3⟩ := trodAll_cons r2
 obtain ⟨rfl, rfl, rfl⟩ := trodAll_nil r3
 obtain rfl : args = #[v0, v1, v2, v3] := by cases args; simp_all
 obtain ⟨rfl, rfl⟩ := trodVars_none hV
 have k0 := h0
 have k1 := h1
 have k2 := h2
 have k3 := h3
 obtain ⟨A0, cap0, l0, rfl, at0, ok0, le0⟩ := R41.arg_wis (hval 0 22 v0 rfl rfl) h0
 obtain ⟨a1, rfl, rfl, rfl, w1⟩ := open_int Tryz.underlying23 (hval 1 23 v1 rfl rfl) h1
 obtain ⟨a2, rfl, rfl, rfl, w2⟩ := open_int Tryz.underlying23 (hval 2 23 v2 rfl rfl) h2
 obtain ⟨a3, rfl, rfl, rfl, w3⟩ := open_int Tryz.underlying23 (hval 3 23 v3 rfl rfl) h3
 have lt0 := trod_lt_any k0
 have lt1 := trod_lt_any k1
 have lt2 := trod_lt_any k2
 have lt3 := trod_lt_any k3
 have hg := R41.glob_laid hL
 obtain ⟨n1, rfl, m1⟩ := nat16 w1
 obtain ⟨n2, rfl, m2⟩ := nat16 w2
 obtain ⟨n3, rfl, m3⟩ := nat16 w3
 clear hA0 hval0
 simp only [List.append_nil] at hW'
 refine (R41.TopEdition_calls A0 cap0 l0 n1 n2 n3 W at0 ok0 hg le0 m1 m2 m3).mono fun e W' ⟨he, bel⟩ => ?_
 subst he
 exact ⟨_, rfl, _, _, _, [], _, [], hW', trodAll_mk1 (shut_bool Tryz.underlying4 _), (trodAll_cons_mk (Below.trod laidOut (by kernel_rfl) (of_decide_eq_true (by kernel_rfl)) k0 bel lt0) (trodAll_cons_mk (Below.trod laidOut (by kernel_rfl) (of_decide_eq_true (by kernel_rfl)) k1 bel lt1) (trodAll_cons_mk (Below.trod laidOut (by kernel_rfl) (of_decide_eq_true (by kernel_rfl)) k2 bel lt2) (trodAll_cons_mk (Below.trod laidOut (by kernel_rfl) (of_decide_eq_true (by kernel_rfl)) k3 bel lt3) trodAll_mk0)))), rfl, bel.frame _, fun h => by cases h⟩

theorem over : Rows.topEditionRow.holds Tryz.pinned (OpenSpec.ofChange Rows.topEditionSpec) :=
 OpenClaim.holds_of_wide 3 Tryz.f3 rfl rfl rfl rfl rfl rfl rfl ⟨rfl, rfl, rfl, rfl, rfl⟩ rfl rfl rfl rfl rfl (by kernel_rfl) Tryz.func3 (by kernel_rfl)
  (of_decide_eq_true (by kernel_rfl)) (by unfold Func.isWrapper; first|(rw [if_pos (by decide +kernel)]; kernel_rfl)|(rw [if_neg (by decide +kernel)]; exact ⟨rfl, rfl⟩))
  (fun os started H enc _ => lifted os started H enc)

theorem proved : Rows.TopEditionCardSaid :=
 Claim7.holds_tied_plain_at .later [] [.data, .data] true (true, "ae98f56dcbdf33dbe9ca8a3aa9cddb60a8b9124cf2665c72ec3a559c918af319") false
  over (fun _ h => by cases h) (by kernel_rfl) (fun _ h => by cases h) topEdition_row_tie rfl ⟨rfl, rfl⟩ (by kernel_rfl) rfl
  (fun f fn hf hfn => by
   obtain rfl : f = 3 := Option.some.inj ((show Tryz.prog.funcNamed "kinesphere/kinespheretop.TopEdition" = some 3 by kernel_rfl).symm.trans hf) |>.symm
   obtain rfl : fn = Tryz.f3 := (Option.some.inj (Tryz.func3.symm.trans hfn)).symm
   exact ⟨by kernel_rfl, fun j t ht => by
    rw [Tryz.params3] at ht
    have hm : t ∈ [22, 23, 23, 23] := by simpa using Array.mem_of_getElem? ht
    have hall : ([22, 23, 23, 23].all fun u => !Tryz.prog.wantsStandIn u) = true := by kernel_rfl
    exact (show Tryz.prog.wantsStandIn t = false by simpa using List.all_eq_true.1 hall t hm)⟩)
  (by kernel_rfl)
end Go.Proofs.YtdegengehbdelaaGreatDoor.topEdition

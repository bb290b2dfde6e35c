/- The arguments of the statement, opened. -/
import Derived.Test.YtajnkdgbpffinaaGreatProg
import Derived.Test.YtajnkdgbpffinaaGreatEng10
import Derived.Test.YtajnkdgbpffinaaGreatSwG
import Derived.OpenShut
set_option maxRecDepth 100000
set_option maxHeartbeats 400000000
set_option linter.unusedSectionVars false
set_option linter.unusedVariables false
set_option linter.unusedSimpArgs false
namespace Go.Proofs
open Go.RowKit Go.Kin Go.Kin.Cl Go.ChangeShapes Go.WideShapes
namespace R41
section
variable {H : Type} {enc : TypeId × Value -> H} {w : World}
theorem int3 : Reads enc Tryz.prog w 3 fun cs => ∃ n, cs = [.int .i64 n] /\ (-9223372036854775808 <= n /\ n <= 9223372036854775807) := (rd_int Tryz.underlying3).mono fun cs ⟨n, h, hw⟩ => ⟨n, h, bounds_i64 hw⟩
theorem rd_ratio : Reads enc Tryz.prog w 30 fun cs => ∃ n d : Int, cs = [.int .i64 n, .int .i64 d] /\ I64 n /\ I64 d :=
 (rd_struct1 (R := fun _ cs => ∃ n, cs = [.int .i64 n] /\ (-9223372036854775808 <= n /\ n <= 9223372036854775807)) (n := 2) Tryz.underlying30 (by kernel_rfl) (by kernel_rfl) (fun i f hi => by
  rcases i with _ | _ | i <;> simp at hi <;> subst hi <;> exact int3)).mono fun cs ⟨hl, h⟩ => by
 match cs, hl with
 | [c0, c1], _ =>
  obtain ⟨n0, e0, b0⟩ := h 0 _ c0 rfl rfl
  obtain ⟨n1, e1, b1⟩ := h 1 _ c1 rfl rfl
  cases e0; cases e1
  exact ⟨n0, n1, rfl, b0, b1⟩
theorem rd_sg : Reads enc Tryz.prog w 32 fun cs => ∃ s : Sg, cs = sgE s /\ s.wf :=
 (rd_struct (R := fun i cs => if i < 10 then ∃ n, cs = [.int .i64 n] /\ (-9223372036854775808 <= n /\ n <= 9223372036854775807) else ∃ n d : Int, cs = [.int .i64 n, .int .i64 d] /\ I64 n /\ I64 d) (n := 14) Tryz.underlying32 (by kernel_rfl) (fun i f hi => by
  rcases i with _ | _ | _ | _ | _ | _ | _ | _ | _ | _ | _ | _ | i <;> simp at hi <;> subst hi
  iterate 10 exact int3
  ·exact rd_ratio
  ·exact rd_ratio)).mono fun cs ⟨hl, h⟩ => by
 match cs, hl with
 | [c0, c1, c2, c3, c4, c5, c6, c7, c8, c9, c10, c11, c12, c13], _ =>
  obtain ⟨n0, e0, -⟩ := h 0 _ rfl
  obtain ⟨n1, e1, -⟩ := h 1 _ rfl
  obtain ⟨n2, e2, -⟩ := h 2 _ rfl
  obtain ⟨n3, e3, -⟩ := h 3 _ rfl
  obtain ⟨n4, e4, -⟩ := h 4 _ rfl
  obtain ⟨n5, e5, -⟩ := h 5 _ rfl
  obtain ⟨n6, e6, -⟩ := h 6 _ rfl
  obtain ⟨n7, e7, -⟩ := h 7 _ rfl
  obtain ⟨n8, e8, -⟩ := h 8 _ rfl
  obtain ⟨n9, e9, -⟩ := h 9 _ rfl
  obtain ⟨n10, n11, e10, b10, b11⟩ := h 10 _ rfl
  obtain ⟨n12, n13, e12, b12, b13⟩ := h 11 _ rfl
  cases e0; cases e1; cases e2; cases e3; cases e4; cases e5; cases e6; cases e7; cases e8; cases e9; cases e10; cases e12
  exact ⟨⟨n0, n1, n2, n3, n4, n5, n6, n7, n8, n9, n10, n11, n12, n13⟩, rfl, ⟨b10, b11, b12, b13⟩⟩
theorem str9 : Reads enc Tryz.prog w 9 fun cs => ∃ s : ByteArray, cs = [.string s] := fun fu cs x hx => by
 obtain ⟨s, h1, _⟩ := DataW.trod_string Tryz.underlying9 hx
 exact ⟨s, h1⟩
theorem rd_rg : Reads enc Tryz.prog w 58 fun cs => ∃ r : Rg, cs = rgE r /\ True :=
 (rd_struct1 (R := fun i cs => if i = 6 ∨ i = 7 then ∃ s : ByteArray, cs = [.string s] else ∃ n, cs = [.int .i64 n] /\ (-9223372036854775808 <= n /\ n <= 9223372036854775807)) (n := 11) Tryz.underlying58 (by kernel_rfl) (by kernel_rfl) (fun i f hi => by
  rcases i with _ | _ | _ | _ | _ | _ | _ | _ | _ | _ | _ | i <;> simp at hi <;> subst hi
  iterate 6 exact int3
  ·exact str9
  ·exact str9
  iterate 3 exact int3)).mono fun cs ⟨hl, h⟩ => by
 match cs, hl with
 | [c0, c1, c2, c3, c4, c5, c6, c7, c8, c9, c10], _ =>
  obtain ⟨n0, e0, -⟩ := h 0 _ c0 rfl rfl
  obtain ⟨n1, e1, -⟩ := h 1 _ c1 rfl rfl
  obtain ⟨n2, e2, -⟩ := h 2 _ c2 rfl rfl
  obtain ⟨n3, e3, -⟩ := h 3 _ c3 rfl rfl
  obtain ⟨n4, e4, -⟩ := h 4 _ c4 rfl rfl
  obtain ⟨n5, e5, -⟩ := h 5 _ c5 rfl rfl
  obtain ⟨n6, e6⟩ := h 6 _ c6 rfl rfl
  obtain ⟨n7, e7⟩ := h 7 _ c7 rfl rfl
  obtain ⟨n8, e8, -⟩ := h 8 _ c8 rfl rfl
  obtain ⟨n9, e9, -⟩ := h 9 _ c9 rfl rfl
  obtain ⟨n10, e10, -⟩ := h 10 _ c10 rfl rfl
  cases e0; cases e1; cases e2; cases e3; cases e4; cases e5; cases e6; cases e7; cases e8; cases e9; cases e10
  exact ⟨⟨n0, n1, n2, n3, n4, n5, n6, n7, n8, n9, n10⟩, rfl, trivial⟩
theorem rd_nilc {t e : TypeId} (ht : Tryz.prog.underlying t = some (.slice e)) : Reads enc Tryz.prog w t fun cs => ∀ A n cap, cs = [.slice A n cap] -> A = none -> cap = 0 := fun fu cs x hx A n cap hc hA => by
 rcases Deep.open_slice ht hx with ⟨h1, _⟩ | ⟨a, len, cap', m, n', D, Pl, h1, _⟩
 ·rw [h1] at hc; cases hc; rfl
 ·rw [h1] at hc; cases hc; cases hA
theorem rd_sgs : Reads enc Tryz.prog w 22 fun cs => ∃ A cap, ∃ l : List Sg, cs = [.slice A l.length cap] /\ Kin.At w A 14 (l.map sgE) /\ (∀ x ∈ l, x.wf) /\ l.length <= cap /\ cap <= maxLen := rd_list Tryz.underlying22 (by kernel_rfl) (by decide) rd_sg
theorem rd_rgs : Reads enc Tryz.prog w 24 fun cs => ∃ A cap, ∃ l : List Rg, cs = [.slice A l.length cap] /\ Kin.At w A 11 (l.map rgE) /\ (∀ x ∈ l, True) /\ l.length <= cap /\ cap <= maxLen := rd_list Tryz.underlying24 (by kernel_rfl) (by decide) rd_rg
variable {r : Reach} {b : Nat} {v : Value} {d : DataW H} {p : List MemPlace}
theorem arg_sgs (hv : Value.okWide Tryz.prog w r b 22 v) (h : DataW.Trod enc Tryz.prog w 0 (fun _ => true) true 22 v d p) :
  ∃ A cap, ∃ l : List Sg, v = .slice A l.length cap /\ Kin.At w A 14 (l.map sgE) /\ (A = none -> cap = 0) /\ l.length <= cap /\ (∀ x ∈ l, x.wf) /\ l.length <= 9223372036854775807 := by
 have e := slice_arg Tryz.underlying22 hv
 obtain ⟨A, cap, l, h1, h2, h3, h4, h5⟩ := rd_arg rd_sgs h
 have hn := rd_arg (rd_nilc Tryz.underlying22) h A l.length cap h1
 rw [e] at h1
 exact ⟨A, cap, l, by cases h1; rfl, h2, hn, h4, h3, by unfold maxLen at h5; omega⟩
theorem arg_rgs (hv : Value.okWide Tryz.prog w r b 24 v) (h : DataW.Trod enc Tryz.prog w 0 (fun _ => true) true 24 v d p) :
  ∃ A cap, ∃ l : List Rg, v = .slice A l.length cap /\ Kin.At w A 11 (l.map rgE) /\ l.length <= 9223372036854775807 := by
 have e := slice_arg Tryz.underlying24 hv
 obtain ⟨A, cap, l, h1, h2, h3, h4, h5⟩ := rd_arg rd_rgs h
 rw [e] at h1
 exact ⟨A, cap, l, by cases h1; rfl, h2, by unfold maxLen at h5; omega⟩
end
end R41
end Go.Proofs

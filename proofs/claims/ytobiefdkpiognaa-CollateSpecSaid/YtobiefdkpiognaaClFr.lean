/- The arguments of the statements on collating, opened. -/
import Derived.Test.YtobiefdkpiognaaProg
import Derived.Test.YtobiefdkpiognaaFrRd
import Derived.Test.YtobiefdkpiognaaClL
import Derived.Test.YtobiefdkpiognaaClG
import Derived.OpenShut
set_option linter.unusedSectionVars false
set_option linter.unusedVariables false
set_option linter.unusedSimpArgs false
namespace Go.Proofs
open Go.RowKit Go.Kin Go.Kin.Cl Go.ChangeShapes Go.WideShapes
namespace R41
section
variable {H : Type} {enc : TypeId × Value → H} {w : World}
theorem int3 : Reads enc Try.prog w 3 fun cs => ∃ n, cs = [.int .i64 n] ∧ (-9223372036854775808 ≤ n ∧ n ≤ 9223372036854775807) := (rd_int Try.underlying3).mono fun cs ⟨n, h, hw⟩ => ⟨n, h, bounds_i64 hw⟩
theorem rd_in : Reads enc Try.prog w 3 fun cs => ∃ x : Int, cs = inE x ∧ (-9223372036854775808 ≤ x ∧ x ≤ 9223372036854775807) := int3
theorem rd_ints : Reads enc Try.prog w 42 fun cs => ∃ A cap, ∃ l : List Int, cs = [.slice A l.length cap] ∧ Kin.At w A 1 (l.map inE) ∧ (∀ x ∈ l, -9223372036854775808 ≤ x ∧ x ≤ 9223372036854775807) ∧ l.length ≤ cap ∧ cap ≤ maxLen := rd_list Try.underlying42 (by kernel_rfl) (by decide) rd_in
theorem rd_ratio : Reads enc Try.prog w 32 fun cs => ∃ n d : Int, cs = [.int .i64 n, .int .i64 d] ∧ I64 n ∧ I64 d :=
  (rd_struct1 (R := fun _ cs => ∃ n, cs = [.int .i64 n] ∧ (-9223372036854775808 ≤ n ∧ n ≤ 9223372036854775807)) (n := 2) Try.underlying32 (by kernel_rfl) (by kernel_rfl) (fun i f hi => by
    rcases i with _ | _ | i <;> simp at hi <;> subst hi <;> exact int3)).mono fun cs ⟨hl, h⟩ => by
  match cs, hl with
  | [c0, c1], _ =>
    obtain ⟨n0, e0, b0⟩ := h 0 _ c0 rfl rfl
    obtain ⟨n1, e1, b1⟩ := h 1 _ c1 rfl rfl
    cases e0; cases e1
    exact ⟨n0, n1, rfl, b0, b1⟩
theorem rd_sg : Reads enc Try.prog w 34 fun cs => ∃ s : Sg, cs = sgE s ∧ s.wf :=
  (rd_struct (R := fun i cs => if i < 10 then ∃ n, cs = [.int .i64 n] ∧ (-9223372036854775808 ≤ n ∧ n ≤ 9223372036854775807) else ∃ n d : Int, cs = [.int .i64 n, .int .i64 d] ∧ I64 n ∧ I64 d) (n := 14) Try.underlying34 (by kernel_rfl) (fun i f hi => by
    rcases i with _ | _ | _ | _ | _ | _ | _ | _ | _ | _ | _ | _ | i <;> simp at hi <;> subst hi
    iterate 10 exact int3
    · exact rd_ratio
    · exact rd_ratio)).mono fun cs ⟨hl, h⟩ => by
  match cs, hl with
  | [c0, c1, c2, c3, c4, c5, c6, c7, c8, c9, c10, c11, c12, c13], _ =>
    obtain ⟨n0, e0, -⟩ := h 0 _ rfl
    obtain ⟨n1, e1, -⟩ := h 1 _ rfl
    obtain ⟨n2, e2, -⟩ := h 2 _ rfl
    obtain ⟨n3, e3, -⟩ := h 3 _ rfl
    obtain ⟨n4, e4, -⟩ := h 4 _ rfl
    obtain ⟨n5, e5, -⟩ := h 5 _ rfl
    obtain ⟨n6, e6, -⟩ := h 6 _ rfl
    obtain ⟨n7, e7, -⟩ := h 7 _ rfl
    obtain ⟨n8, e8, -⟩ := h 8 _ rfl
    obtain ⟨n9, e9, -⟩ := h 9 _ rfl
    obtain ⟨n10, n11, e10, b10, b11⟩ := h 10 _ rfl
    obtain ⟨n12, n13, e12, b12, b13⟩ := h 11 _ rfl
    cases e0; cases e1; cases e2; cases e3; cases e4; cases e5; cases e6; cases e7; cases e8; cases e9; cases e10; cases e12
    exact ⟨⟨n0, n1, n2, n3, n4, n5, n6, n7, n8, n9, n10, n11, n12, n13⟩, rfl, ⟨b10, b11, b12, b13⟩⟩
theorem rd_rd : Reads enc Try.prog w 72 fun cs => ∃ r : Rd, cs = rdE r ∧ r.s.wf :=
  (rd_struct (R := fun i cs => if i = 0 then ∃ b, cs = [.bool b] else ∃ s : Sg, cs = sgE s ∧ s.wf) (n := 15) Try.underlying72 (by kernel_rfl) (fun i f hi => by
    rcases i with _ | _ | i <;> simp at hi <;> subst hi
    · exact rd_bool Try.underlying4
    · exact rd_sg)).mono fun cs ⟨hl, h⟩ => by
  match cs, hl with
  | [c0, c1, c2, c3, c4, c5, c6, c7, c8, c9, c10, c11, c12, c13, c14], _ =>
    obtain ⟨b, e0⟩ := h 0 _ rfl
    obtain ⟨s, e1, hs⟩ := h 1 _ rfl
    cases e0
    have e1 : [c1, c2, c3, c4, c5, c6, c7, c8, c9, c10, c11, c12, c13, c14] = sgE s := e1
    exact ⟨⟨b, s⟩, by rw [e1], hs⟩
theorem rd_rds : Reads enc Try.prog w 35 fun cs => ∃ A cap, ∃ l : List Rd, cs = [.slice A l.length cap] ∧ Kin.At w A 15 (l.map rdE) ∧ (∀ x ∈ l, x.s.wf) ∧ l.length ≤ cap ∧ cap ≤ maxLen := rd_list Try.underlying35 (by kernel_rfl) (by decide) rd_rd
theorem rd_wi : Reads enc Try.prog w 37 fun cs => ∃ x : Wi, cs = wiE x ∧ WiOK w x :=
  (rd_struct1 (R := fun i cs => if i < 2 then ∃ n, cs = [.int .i64 n] ∧ (-9223372036854775808 ≤ n ∧ n ≤ 9223372036854775807) else ∃ A cap, ∃ l : List Rd, cs = [.slice A l.length cap] ∧ Kin.At w A 15 (l.map rdE) ∧ (∀ x ∈ l, x.s.wf) ∧ l.length ≤ cap ∧ cap ≤ maxLen) (n := 3) Try.underlying37 (by kernel_rfl) (by kernel_rfl) (fun i f hi => by
    rcases i with _ | _ | _ | i <;> simp at hi <;> subst hi
    · exact int3
    · exact int3
    · exact rd_rds)).mono fun cs ⟨hl, h⟩ => by
  match cs, hl with
  | [c0, c1, c2], _ =>
    obtain ⟨n0, e0, -⟩ := h 0 _ c0 rfl rfl
    obtain ⟨n1, e1, -⟩ := h 1 _ c1 rfl rfl
    obtain ⟨A, cap, l, e2, h1, h2, h3, h4⟩ := h 2 _ c2 rfl rfl
    cases e0; cases e1; cases e2
    exact ⟨⟨n0, n1, A, cap, l⟩, rfl, h1, h2, by unfold maxLen at h4; simp only; omega⟩
theorem rd_wis : Reads enc Try.prog w 22 fun cs => ∃ A cap, ∃ l : List Wi, cs = [.slice A l.length cap] ∧ Kin.At w A 3 (l.map wiE) ∧ (∀ x ∈ l, WiOK w x) ∧ l.length ≤ cap ∧ cap ≤ maxLen := rd_list Try.underlying22 (by kernel_rfl) (by decide) rd_wi
set_option maxRecDepth 100000 in
theorem rd_arr : Reads enc Try.prog w 62 fun cs => ∃ p : Int × Int, cs = pQ p ∧ True := fun fu cs x hx => by
  obtain ⟨xs, m, _, _, hl, hxl, h⟩ := DataW.trod_array Try.underlying62 hx
  have hc : Try.prog.cellsOf 62 = 2 := by kernel_rfl
  have hc3 : Try.prog.cellsOf 3 = 1 := by kernel_rfl
  rw [hc] at hl
  match cs, hl with
  | [c0, c1], _ =>
    have h0 := h 0 (by decide)
    have h1 := h 1 (by decide)
    rw [hc3] at h0 h1
    rw [List.getElem?_eq_getElem (by omega)] at h0 h1
    obtain ⟨n0, e0, -⟩ := int3 _ _ _ h0
    obtain ⟨n1, e1, -⟩ := int3 _ _ _ h1
    have e0 : [c0] = [.int .i64 n0] := e0
    have e1 : [c1] = [.int .i64 n1] := e1
    cases e0; cases e1
    exact ⟨(n0, n1), rfl, trivial⟩
theorem rd_prs : Reads enc Try.prog w 48 fun cs => ∃ A cap, ∃ l : List (Int × Int), cs = [.slice A l.length cap] ∧ Kin.At w A 2 (l.map pQ) ∧ (∀ x ∈ l, True) ∧ l.length ≤ cap ∧ cap ≤ maxLen := rd_list Try.underlying48 (by kernel_rfl) (by decide) rd_arr
/-! ## Arguments -/
variable {r : Reach} {b : Nat} {v : Value} {d : DataW H} {p : List MemPlace}
theorem arg_ints (hv : Value.okWide Try.prog w r b 42 v) (h : DataW.Trod enc Try.prog w 0 (fun _ => true) true 42 v d p) :
    ∃ A cap, ∃ l : List Int, v = .slice A l.length cap ∧ Kin.At w A 1 (l.map inE) ∧ (∀ x ∈ l, -9223372036854775808 ≤ x ∧ x ≤ 9223372036854775807) ∧ l.length ≤ maxLen := by
  have e := slice_arg Try.underlying42 hv
  obtain ⟨A, cap, l, h1, h2, h3, h4, h5⟩ := rd_arg rd_ints h
  rw [e] at h1
  exact ⟨A, cap, l, by cases h1; rfl, h2, h3, by omega⟩
theorem arg_prs (hv : Value.okWide Try.prog w r b 48 v) (h : DataW.Trod enc Try.prog w 0 (fun _ => true) true 48 v d p) :
    ∃ A cap, ∃ l : List (Int × Int), v = .slice A l.length cap ∧ Kin.At w A 2 (l.map pQ) ∧ l.length ≤ 9223372036854775807 := by
  have e := slice_arg Try.underlying48 hv
  obtain ⟨A, cap, l, h1, h2, h3, h4, h5⟩ := rd_arg rd_prs h
  rw [e] at h1
  exact ⟨A, cap, l, by cases h1; rfl, h2, by unfold maxLen at h5; omega⟩
theorem arg_wis (hv : Value.okWide Try.prog w r b 22 v) (h : DataW.Trod enc Try.prog w 0 (fun _ => true) true 22 v d p) :
    ∃ A cap, ∃ l : List Wi, v = .slice A l.length cap ∧ Kin.At w A 3 (l.map wiE) ∧ (∀ x ∈ l, WiOK w x) ∧ l.length ≤ 9223372036854775807 := by
  have e := slice_arg Try.underlying22 hv
  obtain ⟨A, cap, l, h1, h2, h3, h4, h5⟩ := rd_arg rd_wis h
  rw [e] at h1
  exact ⟨A, cap, l, by cases h1; rfl, h2, h3, by unfold maxLen at h5; omega⟩
theorem arg_sg (hv : Value.okWide Try.prog w r b 34 v) (h : DataW.Trod enc Try.prog w 0 (fun _ => true) true 34 v d p) : ∃ s : Sg, v = .agg ⟨sgE s⟩ := by
  obtain ⟨cs, rfl, e⟩ := struct_arg Try.underlying34 hv
  obtain ⟨s, h1, -⟩ := rd_arg rd_sg h
  exact ⟨s, by rw [← e, h1]⟩
theorem arg_wi (hv : Value.okWide Try.prog w r b 37 v) (h : DataW.Trod enc Try.prog w 0 (fun _ => true) true 37 v d p) : ∃ x : Wi, v = .agg ⟨wiE x⟩ ∧ WiOK w x := by
  obtain ⟨cs, rfl, e⟩ := struct_arg Try.underlying37 hv
  obtain ⟨x, h1, h2⟩ := rd_arg rd_wi h
  exact ⟨x, by rw [← e, h1], h2⟩
end
end R41
end Go.Proofs

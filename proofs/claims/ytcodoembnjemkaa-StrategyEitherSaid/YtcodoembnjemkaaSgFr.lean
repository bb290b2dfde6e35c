/- The arguments of the statements on games, opened. -/
import Derived.Test.YtcodoembnjemkaaProg
import Derived.Test.YtcodoembnjemkaaFrRd
import Derived.Test.YtcodoembnjemkaaSgRd
set_option linter.unusedSectionVars false
set_option linter.unusedVariables false
set_option linter.unusedSimpArgs false
namespace Go.Proofs
open Go.RowKit Go.Kin Go.Kin.St Go.Kin.Ct Go.Kin.Sg Go.ChangeShapes Go.WideShapes
namespace R24
open R22 (lkE)
section
variable {H : Type} {enc : TypeId × Value → H} {w : World}
theorem int3 : Reads enc Try.prog w 3 fun cs => ∃ n, cs = [.int .i64 n] ∧ (Lit.int .i64 n).wf = true := rd_int Try.underlying3
theorem rd_lk : Reads enc Try.prog w 43 fun cs => ∃ x : Lk, cs = lkE x ∧ True :=
  (rd_struct1 (R := fun _ cs => ∃ n, cs = [.int .i64 n] ∧ (Lit.int .i64 n).wf = true) (n := 4) Try.underlying43 (by kernel_rfl) (by kernel_rfl) (fun i f hi => by
    rcases i with _ | _ | _ | _ | i <;> simp at hi <;> subst hi <;> exact int3)).mono fun cs ⟨hl, h⟩ => by
  match cs, hl with
  | [c0, c1, c2, c3], _ =>
    obtain ⟨n0, e0, _⟩ := h 0 _ c0 rfl rfl
    obtain ⟨n1, e1, _⟩ := h 1 _ c1 rfl rfl
    obtain ⟨n2, e2, _⟩ := h 2 _ c2 rfl rfl
    obtain ⟨n3, e3, _⟩ := h 3 _ c3 rfl rfl
    cases e0; cases e1; cases e2; cases e3
    exact ⟨⟨n0, n1, n2, n3⟩, rfl, trivial⟩
theorem rd_in : Reads enc Try.prog w 3 fun cs => ∃ x : Int, cs = inE x ∧ True := int3.mono fun cs ⟨n, h, _⟩ => ⟨n, h, trivial⟩
theorem rd_ints : Reads enc Try.prog w 26 fun cs => ∃ A cap, ∃ l : List Int, cs = [.slice A l.length cap] ∧ Kin.At w A 1 (l.map inE) ∧ (∀ x ∈ l, True) ∧ l.length ≤ cap ∧ cap ≤ maxLen := rd_list Try.underlying26 (by kernel_rfl) (by decide) rd_in
theorem rd_links : Reads enc Try.prog w 22 fun cs => ∃ A cap, ∃ l : List Lk, cs = [.slice A l.length cap] ∧ Kin.At w A 4 (l.map lkE) ∧ (∀ x ∈ l, True) ∧ l.length ≤ cap ∧ cap ≤ maxLen := rd_list Try.underlying22 (by kernel_rfl) (by decide) rd_lk
theorem rd_un : Reads enc Try.prog w 24 fun cs => ∃ u : R23.Un, cs = u.v ∧ u.In w :=
  (rd_struct1 (R := fun i cs => if i = 0 then ∃ n, cs = [.int .i64 n] ∧ (Lit.int .i64 n).wf = true else ∃ A cap, ∃ l : List Lk, cs = [.slice A l.length cap] ∧ Kin.At w A 4 (l.map lkE) ∧ (∀ x ∈ l, True) ∧ l.length ≤ cap ∧ cap ≤ maxLen) (n := 3) Try.underlying24 (by kernel_rfl) (by kernel_rfl) (fun i f hi => by
    rcases i with _ | _ | _ | i <;> simp at hi <;> subst hi
    · exact int3
    · exact rd_links
    · exact rd_links)).mono fun cs ⟨hl, h⟩ => by
  match cs, hl with
  | [c0, c1, c2], _ =>
    obtain ⟨n0, e0, hn⟩ := h 0 _ c0 rfl rfl
    obtain ⟨A, ca, l, e1, h1, _⟩ := h 1 _ c1 rfl rfl
    obtain ⟨B, cb, m, e2, h2, _⟩ := h 2 _ c2 rfl rfl
    cases e0; cases e1; cases e2
    exact ⟨⟨n0, A, ca, l, B, cb, m⟩, rfl, h1, h2⟩
theorem rd_dec : Reads enc Try.prog w 57 fun cs => ∃ r : DW, cs = dwE r ∧ Kin.At w r.K 1 (r.l.map inE) ∧ Kin.At w r.D 1 (r.d.map inE) :=
  (rd_struct1 (R := fun i cs => if i = 0 then ∃ n, cs = [.int .i64 n] ∧ (Lit.int .i64 n).wf = true else ∃ A cap, ∃ l : List Int, cs = [.slice A l.length cap] ∧ Kin.At w A 1 (l.map inE) ∧ (∀ x ∈ l, True) ∧ l.length ≤ cap ∧ cap ≤ maxLen) (n := 3) Try.underlying57 (by kernel_rfl) (by kernel_rfl) (fun i f hi => by
    rcases i with _ | _ | _ | i <;> simp at hi <;> subst hi
    · exact int3
    · exact rd_ints
    · exact rd_ints)).mono fun cs ⟨hl, h⟩ => by
  match cs, hl with
  | [c0, c1, c2], _ =>
    obtain ⟨n0, e0, hn⟩ := h 0 _ c0 rfl rfl
    obtain ⟨A, ca, l, e1, h1, _⟩ := h 1 _ c1 rfl rfl
    obtain ⟨B, cb, m, e2, h2, _⟩ := h 2 _ c2 rfl rfl
    cases e0; cases e1; cases e2
    exact ⟨⟨n0, l, m, A, ca, B, cb⟩, rfl, h1, h2⟩
theorem rd_decs : Reads enc Try.prog w 25 fun cs => ∃ A cap, ∃ l : List DW, cs = [.slice A l.length cap] ∧ Kin.At w A 3 (l.map dwE) ∧ (∀ r ∈ l, Kin.At w r.K 1 (r.l.map inE) ∧ Kin.At w r.D 1 (r.d.map inE)) ∧ l.length ≤ cap ∧ cap ≤ maxLen := rd_list Try.underlying25 (by kernel_rfl) (by decide) rd_dec
variable {r : Reach} {b : Nat} {v : Value} {d : DataW H} {p : List MemPlace}
set_option maxRecDepth 100000 in
theorem arg_un (hv : Value.okWide Try.prog w r b 24 v) (h : DataW.Trod enc Try.prog w 0 (fun _ => true) true 24 v d p) : ∃ u : R23.Un, v = .agg ⟨u.v⟩ ∧ u.In w := by
  obtain ⟨cs, rfl, e⟩ := struct_arg Try.underlying24 hv
  obtain ⟨u, h1, h2⟩ := rd_arg rd_un h
  exact ⟨u, by rw [← e, h1], h2⟩
set_option maxRecDepth 100000 in
theorem arg_decs (hv : Value.okWide Try.prog w r b 25 v) (h : DataW.Trod enc Try.prog w 0 (fun _ => true) true 25 v d p) :
    ∃ A cap, ∃ l : List DW, v = .slice A l.length cap ∧ StrIn w A l ∧ l.length ≤ 9223372036854775807 := by
  have e := slice_arg Try.underlying25 hv
  obtain ⟨A, cap, l, h1, h2, h5, h3, h4⟩ := rd_arg rd_decs h
  rw [e] at h1
  unfold maxLen at h4
  exact ⟨A, cap, l, by cases h1; rfl, ⟨h2, fun r hr => (h5 r hr).1, fun r hr => (h5 r hr).2⟩, by omega⟩
end
end R24
end Go.Proofs

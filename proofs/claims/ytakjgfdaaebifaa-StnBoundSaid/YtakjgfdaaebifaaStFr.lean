/- The arguments of the statements on networks, opened. -/
import Derived.Test.YtakjgfdaaebifaaProg
import Derived.Test.YtakjgfdaaebifaaFrRd
import Derived.Test.YtakjgfdaaebifaaStRAcc
set_option linter.unusedSectionVars false
set_option linter.unusedVariables false
set_option linter.unusedSimpArgs false
namespace Go.Proofs
open Go.RowKit Go.Kin Go.Kin.St Go.ChangeShapes Go.WideShapes
namespace R22
section
variable {H : Type} {enc : TypeId × Value → H} {w : World}
theorem int3 : Reads enc Try.prog w 3 fun cs => ∃ n, cs = [.int .i64 n] ∧ (Lit.int .i64 n).wf = true := rd_int Try.underlying3
theorem rd_lk : Reads enc Try.prog w 47 fun cs => ∃ x : Lk, cs = lkE x ∧ True :=
  (rd_struct1 (R := fun _ cs => ∃ n, cs = [.int .i64 n] ∧ (Lit.int .i64 n).wf = true) (n := 4) Try.underlying47 (by kernel_rfl) (by kernel_rfl) (fun i f hi => by
    rcases i with _ | _ | _ | _ | i <;> simp at hi <;> subst hi <;> exact int3)).mono fun cs ⟨hl, h⟩ => by
  match cs, hl with
  | [c0, c1, c2, c3], _ =>
    obtain ⟨n0, e0, _⟩ := h 0 _ c0 rfl rfl
    obtain ⟨n1, e1, _⟩ := h 1 _ c1 rfl rfl
    obtain ⟨n2, e2, _⟩ := h 2 _ c2 rfl rfl
    obtain ⟨n3, e3, _⟩ := h 3 _ c3 rfl rfl
    cases e0; cases e1; cases e2; cases e3
    exact ⟨⟨n0, n1, n2, n3⟩, rfl, trivial⟩
theorem rd_us : Reads enc Try.prog w 56 fun cs => ∃ x : Us, cs = usE x ∧ True :=
  (rd_struct1 (R := fun i cs => if i = 0 then ∃ n, cs = [.int .i64 n] ∧ (Lit.int .i64 n).wf = true else ∃ b, cs = [.bool b]) (n := 2) Try.underlying56 (by kernel_rfl) (by kernel_rfl) (fun i f hi => by
    rcases i with _ | _ | i <;> simp at hi <;> subst hi
    · exact int3
    · exact rd_bool Try.underlying4)).mono fun cs ⟨hl, h⟩ => by
  match cs, hl with
  | [c0, c1], _ =>
    obtain ⟨n0, e0, _⟩ := h 0 _ c0 rfl rfl
    obtain ⟨n1, e1⟩ := h 1 _ c1 rfl rfl
    cases e0; cases e1
    exact ⟨⟨n0, n1⟩, rfl, trivial⟩
theorem rd_in : Reads enc Try.prog w 3 fun cs => ∃ x : Int, cs = inE x ∧ True := int3.mono fun cs ⟨n, h, _⟩ => ⟨n, h, trivial⟩
/-- the numbers of times, the uses, the network -/
theorem rd_ints : Reads enc Try.prog w 25 fun cs => ∃ A cap, ∃ l : List Int, cs = [.slice A l.length cap] ∧ At w A 1 (l.map inE) ∧ (∀ x ∈ l, True) ∧ l.length ≤ cap ∧ cap ≤ maxLen := rd_list Try.underlying25 (by kernel_rfl) (by decide) rd_in
theorem rd_uses : Reads enc Try.prog w 26 fun cs => ∃ A cap, ∃ l : List Us, cs = [.slice A l.length cap] ∧ At w A 2 (l.map usE) ∧ (∀ x ∈ l, True) ∧ l.length ≤ cap ∧ cap ≤ maxLen := rd_list Try.underlying26 (by kernel_rfl) (by decide) rd_us
theorem rd_links : Reads enc Try.prog w 22 fun cs => ∃ A cap, ∃ l : List Lk, cs = [.slice A l.length cap] ∧ At w A 4 (l.map lkE) ∧ (∀ x ∈ l, True) ∧ l.length ≤ cap ∧ cap ≤ maxLen := rd_list Try.underlying22 (by kernel_rfl) (by decide) rd_lk
theorem rd_net : Reads enc Try.prog w 24 fun cs => ∃ n A cap, ∃ l : List Lk, cs = netCells n A l.length cap ∧ At w A 4 (l.map lkE) ∧ l.length ≤ cap ∧ cap ≤ maxLen ∧ (Lit.int .i64 n).wf = true :=
  (rd_struct1 (R := fun i cs => if i = 0 then ∃ n, cs = [.int .i64 n] ∧ (Lit.int .i64 n).wf = true else ∃ A cap, ∃ l : List Lk, cs = [.slice A l.length cap] ∧ At w A 4 (l.map lkE) ∧ (∀ x ∈ l, True) ∧ l.length ≤ cap ∧ cap ≤ maxLen) (n := 2) Try.underlying24 (by kernel_rfl) (by kernel_rfl) (fun i f hi => by
    rcases i with _ | _ | i <;> simp at hi <;> subst hi
    · exact int3
    · exact rd_links)).mono fun cs ⟨hl, h⟩ => by
  match cs, hl with
  | [c0, c1], _ =>
    obtain ⟨n0, e0, hn⟩ := h 0 _ c0 rfl rfl
    obtain ⟨A, cap, l, e1, h1, _, h2, h3⟩ := h 1 _ c1 rfl rfl
    cases e0; cases e1
    exact ⟨n0, A, cap, l, rfl, h1, h2, h3, hn⟩

/-- arguments -/
theorem arg_net {r : Reach} {b : Nat} {v : Value} {d : DataW H} {p : List MemPlace} (hv : Value.okWide Try.prog w r b 24 v) (h : DataW.Trod enc Try.prog w 0 (fun _ => true) true 24 v d p) :
    ∃ n A cap, ∃ l : List Lk, v = .agg ⟨netCells n A l.length cap⟩ ∧ At w A 4 (l.map lkE) ∧ l.length ≤ cap ∧ cap ≤ maxLen ∧ (Lit.int .i64 n).wf = true := by
  obtain ⟨cs, rfl, e⟩ := struct_arg Try.underlying24 hv
  obtain ⟨n, A, cap, l, h1, h2, h3, h4, h5⟩ := rd_arg rd_net h
  exact ⟨n, A, cap, l, by rw [← e, h1], h2, h3, h4, h5⟩
theorem arg_ints {r : Reach} {b : Nat} {v : Value} {d : DataW H} {p : List MemPlace} (hv : Value.okWide Try.prog w r b 25 v) (h : DataW.Trod enc Try.prog w 0 (fun _ => true) true 25 v d p) :
    ∃ A cap, ∃ l : List Int, v = .slice A l.length cap ∧ At w A 1 (l.map inE) := by
  have e := slice_arg Try.underlying25 hv
  obtain ⟨A, cap, l, h1, h2, _⟩ := rd_arg rd_ints h
  rw [e] at h1
  exact ⟨A, cap, l, by cases h1; rfl, h2⟩
theorem arg_uses {r : Reach} {b : Nat} {v : Value} {d : DataW H} {p : List MemPlace} (hv : Value.okWide Try.prog w r b 26 v) (h : DataW.Trod enc Try.prog w 0 (fun _ => true) true 26 v d p) :
    ∃ A cap, ∃ l : List Us, v = .slice A l.length cap ∧ At w A 2 (l.map usE) := by
  have e := slice_arg Try.underlying26 hv
  obtain ⟨A, cap, l, h1, h2, _⟩ := rd_arg rd_uses h
  rw [e] at h1
  exact ⟨A, cap, l, by cases h1; rfl, h2⟩
end
end R22
end Go.Proofs

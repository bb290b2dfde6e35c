/- The arguments of the statements on clocks, opened. -/
import Derived.Test.YtjagcijgfmclhaaProg
import Derived.Test.YtjagcijgfmclhaaFrRd
import Derived.Test.YtjagcijgfmclhaaTpQ
set_option linter.unusedSectionVars false
set_option linter.unusedVariables false
set_option linter.unusedSimpArgs false
namespace Go.Proofs
open Go.RowKit Go.Kin Go.Kin.Tm Go.ChangeShapes Go.WideShapes
namespace R13
section
variable {H : Type} {enc : TypeId × Value → H} {w : World}
theorem int3 : Reads enc Try.prog w 3 fun cs => ∃ n, cs = [.int .i64 n] ∧ (Lit.int .i64 n).wf = true := rd_int Try.underlying3
theorem rd_ps : Reads enc Try.prog w 53 fun cs => ∃ x : Ps, cs = psE x ∧ True :=
  (rd_struct1 (R := fun _ cs => ∃ n, cs = [.int .i64 n] ∧ (Lit.int .i64 n).wf = true) (n := 4) Try.underlying53 (by kernel_rfl) (by kernel_rfl) (fun i f hi => by
    rcases i with _ | _ | _ | _ | i <;> simp at hi <;> subst hi <;> exact int3)).mono fun cs ⟨hl, h⟩ => by
  match cs, hl with
  | [c0, c1, c2, c3], _ =>
    obtain ⟨n0, e0, _⟩ := h 0 _ c0 rfl rfl
    obtain ⟨n1, e1, _⟩ := h 1 _ c1 rfl rfl
    obtain ⟨n2, e2, _⟩ := h 2 _ c2 rfl rfl
    obtain ⟨n3, e3, _⟩ := h 3 _ c3 rfl rfl
    cases e0; cases e1; cases e2; cases e3
    exact ⟨⟨n0, n1, n2, n3⟩, rfl, trivial⟩
theorem rd_sp : Reads enc Try.prog w 78 fun cs => ∃ x : Sp, cs = spE x ∧ True :=
  (rd_struct1 (R := fun _ cs => ∃ n, cs = [.int .i64 n] ∧ (Lit.int .i64 n).wf = true) (n := 4) Try.underlying78 (by kernel_rfl) (by kernel_rfl) (fun i f hi => by
    rcases i with _ | _ | _ | _ | i <;> simp at hi <;> subst hi <;> exact int3)).mono fun cs ⟨hl, h⟩ => by
  match cs, hl with
  | [c0, c1, c2, c3], _ =>
    obtain ⟨n0, e0, _⟩ := h 0 _ c0 rfl rfl
    obtain ⟨n1, e1, _⟩ := h 1 _ c1 rfl rfl
    obtain ⟨n2, e2, _⟩ := h 2 _ c2 rfl rfl
    obtain ⟨n3, e3, _⟩ := h 3 _ c3 rfl rfl
    cases e0; cases e1; cases e2; cases e3
    exact ⟨⟨n0, n1, n2, n3⟩, rfl, trivial⟩
theorem rd_tp : Reads enc Try.prog w 57 fun cs => ∃ x : Tp, cs = tpE x ∧ True :=
  (rd_struct1 (R := fun _ cs => ∃ n, cs = [.int .i64 n] ∧ (Lit.int .i64 n).wf = true) (n := 3) Try.underlying57 (by kernel_rfl) (by kernel_rfl) (fun i f hi => by
    rcases i with _ | _ | _ | i <;> simp at hi <;> subst hi <;> exact int3)).mono fun cs ⟨hl, h⟩ => by
  match cs, hl with
  | [c0, c1, c2], _ =>
    obtain ⟨n0, e0, _⟩ := h 0 _ c0 rfl rfl
    obtain ⟨n1, e1, _⟩ := h 1 _ c1 rfl rfl
    obtain ⟨n2, e2, _⟩ := h 2 _ c2 rfl rfl
    cases e0; cases e1; cases e2
    exact ⟨⟨n0, n1, n2⟩, rfl, trivial⟩
theorem rd_in : Reads enc Try.prog w 3 fun cs => ∃ x : Int, cs = inE x ∧ (-9223372036854775808 ≤ x ∧ x ≤ 9223372036854775807) := int3.mono fun cs ⟨n, h, hw⟩ => ⟨n, h, bounds_i64 hw⟩
theorem rd_ints : Reads enc Try.prog w 38 fun cs => ∃ A cap, ∃ l : List Int, cs = [.slice A l.length cap] ∧ Kin.At w A 1 (l.map inE) ∧ (∀ x ∈ l, -9223372036854775808 ≤ x ∧ x ≤ 9223372036854775807) ∧ l.length ≤ cap ∧ cap ≤ maxLen := rd_list Try.underlying38 (by kernel_rfl) (by decide) rd_in
theorem rd_tps : Reads enc Try.prog w 22 fun cs => ∃ A cap, ∃ l : List Tp, cs = [.slice A l.length cap] ∧ Kin.At w A 3 (l.map tpE) ∧ (∀ x ∈ l, True) ∧ l.length ≤ cap ∧ cap ≤ maxLen := rd_list Try.underlying22 (by kernel_rfl) (by decide) rd_tp
theorem rd_pss : Reads enc Try.prog w 23 fun cs => ∃ A cap, ∃ l : List Ps, cs = [.slice A l.length cap] ∧ Kin.At w A 4 (l.map psE) ∧ (∀ x ∈ l, True) ∧ l.length ≤ cap ∧ cap ≤ maxLen := rd_list Try.underlying23 (by kernel_rfl) (by decide) rd_ps
theorem rd_sps : Reads enc Try.prog w 24 fun cs => ∃ A cap, ∃ l : List Sp, cs = [.slice A l.length cap] ∧ Kin.At w A 4 (l.map spE) ∧ (∀ x ∈ l, True) ∧ l.length ≤ cap ∧ cap ≤ maxLen := rd_list Try.underlying24 (by kernel_rfl) (by decide) rd_sp
theorem rd_clk : Reads enc Try.prog w 26 fun cs => ∃ c : Clk, cs = c.v ∧ c.In w :=
  (rd_struct1 (R := fun i cs => if i = 0 then ∃ n, cs = [.int .i64 n] ∧ (Lit.int .i64 n).wf = true
    else if i = 1 then ∃ A cap, ∃ l : List Tp, cs = [.slice A l.length cap] ∧ Kin.At w A 3 (l.map tpE) ∧ (∀ x ∈ l, True) ∧ l.length ≤ cap ∧ cap ≤ maxLen
    else if i = 2 then ∃ A cap, ∃ l : List Ps, cs = [.slice A l.length cap] ∧ Kin.At w A 4 (l.map psE) ∧ (∀ x ∈ l, True) ∧ l.length ≤ cap ∧ cap ≤ maxLen
    else ∃ A cap, ∃ l : List Sp, cs = [.slice A l.length cap] ∧ Kin.At w A 4 (l.map spE) ∧ (∀ x ∈ l, True) ∧ l.length ≤ cap ∧ cap ≤ maxLen) (n := 4) Try.underlying26 (by kernel_rfl) (by kernel_rfl) (fun i f hi => by
    rcases i with _ | _ | _ | _ | i <;> simp at hi <;> subst hi
    · exact int3
    · exact rd_tps
    · exact rd_pss
    · exact rd_sps)).mono fun cs ⟨hl, h⟩ => by
  match cs, hl with
  | [c0, c1, c2, c3], _ =>
    obtain ⟨n0, e0, hn⟩ := h 0 _ c0 rfl rfl
    obtain ⟨A, ca, ts, e1, h1, _⟩ := h 1 _ c1 rfl rfl
    obtain ⟨B, cb, ps, e2, h2, _⟩ := h 2 _ c2 rfl rfl
    obtain ⟨C, cc, sp, e3, h3, _⟩ := h 3 _ c3 rfl rfl
    cases e0; cases e1; cases e2; cases e3
    exact ⟨⟨n0, ts, ps, sp, A, B, C, ca, cb, cc⟩, rfl, h1, h2, h3⟩

/-- arguments -/
theorem arg_clk {r : Reach} {b : Nat} {v : Value} {d : DataW H} {p : List MemPlace} (hv : Value.okWide Try.prog w r b 26 v) (h : DataW.Trod enc Try.prog w 0 (fun _ => true) true 26 v d p) : ∃ c : Clk, v = .agg ⟨c.v⟩ ∧ c.In w := by
  obtain ⟨cs, rfl, e⟩ := struct_arg Try.underlying26 hv
  obtain ⟨c, h1, h2⟩ := rd_arg rd_clk h
  exact ⟨c, by rw [← e, h1], h2⟩
theorem arg_ints {r : Reach} {b : Nat} {v : Value} {d : DataW H} {p : List MemPlace} (hv : Value.okWide Try.prog w r b 38 v) (h : DataW.Trod enc Try.prog w 0 (fun _ => true) true 38 v d p) :
    ∃ A cap, ∃ l : List Int, v = .slice A l.length cap ∧ Kin.At w A 1 (l.map inE) ∧ ∀ x ∈ l, -9223372036854775808 ≤ x ∧ x ≤ 9223372036854775807 := by
  have e := slice_arg Try.underlying38 hv
  obtain ⟨A, cap, l, h1, h2, h3, _⟩ := rd_arg rd_ints h
  rw [e] at h1
  exact ⟨A, cap, l, by cases h1; rfl, h2, h3⟩
end
end R13
end Go.Proofs

/- The arguments of the statements on uncertain networks, opened. -/
import Derived.Test.YtnmbglemgkopaaaProg
import Derived.Test.YtnmbglemgkopaaaFrRd
import Derived.Test.YtnmbglemgkopaaaCtC
import Derived.Test.YtnmbglemgkopaaaCtK
import Derived.Test.YtnmbglemgkopaaaTpDm
set_option linter.unusedSectionVars false
set_option linter.unusedVariables false
set_option linter.unusedSimpArgs false
namespace Go.Proofs
open Go.RowKit Go.Kin Go.Kin.St Go.Kin.Ct Go.Kin.Tm Go.ChangeShapes Go.WideShapes
namespace R23
open R22 (lkE)
open R13 (Clk tpE psE spE)
section
variable {H : Type} {enc : TypeId × Value → H} {w : World}
theorem int3 : Reads enc Try.prog w 3 fun cs => ∃ n, cs = [.int .i64 n] ∧ (Lit.int .i64 n).wf = true := rd_int Try.underlying3
theorem rd_lk : Reads enc Try.prog w 55 fun cs => ∃ x : Lk, cs = lkE x ∧ True :=
  (rd_struct1 (R := fun _ cs => ∃ n, cs = [.int .i64 n] ∧ (Lit.int .i64 n).wf = true) (n := 4) Try.underlying55 (by kernel_rfl) (by kernel_rfl) (fun i f hi => by
    rcases i with _ | _ | _ | _ | i <;> simp at hi <;> subst hi <;> exact int3)).mono fun cs ⟨hl, h⟩ => by
  match cs, hl with
  | [c0, c1, c2, c3], _ =>
    obtain ⟨n0, e0, _⟩ := h 0 _ c0 rfl rfl
    obtain ⟨n1, e1, _⟩ := h 1 _ c1 rfl rfl
    obtain ⟨n2, e2, _⟩ := h 2 _ c2 rfl rfl
    obtain ⟨n3, e3, _⟩ := h 3 _ c3 rfl rfl
    cases e0; cases e1; cases e2; cases e3
    exact ⟨⟨n0, n1, n2, n3⟩, rfl, trivial⟩
theorem rd_sp : Reads enc Try.prog w 55 fun cs => ∃ x : Sp, cs = spE x ∧ True := rd_lk.mono fun cs ⟨x, h, _⟩ => ⟨⟨x.fr, x.to, x.lo, x.hi⟩, h, trivial⟩
theorem rd_ps : Reads enc Try.prog w 68 fun cs => ∃ x : Ps, cs = psE x ∧ True :=
  (rd_struct1 (R := fun _ cs => ∃ n, cs = [.int .i64 n] ∧ (Lit.int .i64 n).wf = true) (n := 4) Try.underlying68 (by kernel_rfl) (by kernel_rfl) (fun i f hi => by
    rcases i with _ | _ | _ | _ | i <;> simp at hi <;> subst hi <;> exact int3)).mono fun cs ⟨hl, h⟩ => by
  match cs, hl with
  | [c0, c1, c2, c3], _ =>
    obtain ⟨n0, e0, _⟩ := h 0 _ c0 rfl rfl
    obtain ⟨n1, e1, _⟩ := h 1 _ c1 rfl rfl
    obtain ⟨n2, e2, _⟩ := h 2 _ c2 rfl rfl
    obtain ⟨n3, e3, _⟩ := h 3 _ c3 rfl rfl
    cases e0; cases e1; cases e2; cases e3
    exact ⟨⟨n0, n1, n2, n3⟩, rfl, trivial⟩
theorem rd_tp : Reads enc Try.prog w 72 fun cs => ∃ x : Tp, cs = tpE x ∧ True :=
  (rd_struct1 (R := fun _ cs => ∃ n, cs = [.int .i64 n] ∧ (Lit.int .i64 n).wf = true) (n := 3) Try.underlying72 (by kernel_rfl) (by kernel_rfl) (fun i f hi => by
    rcases i with _ | _ | _ | i <;> simp at hi <;> subst hi <;> exact int3)).mono fun cs ⟨hl, h⟩ => by
  match cs, hl with
  | [c0, c1, c2], _ =>
    obtain ⟨n0, e0, _⟩ := h 0 _ c0 rfl rfl
    obtain ⟨n1, e1, _⟩ := h 1 _ c1 rfl rfl
    obtain ⟨n2, e2, _⟩ := h 2 _ c2 rfl rfl
    cases e0; cases e1; cases e2
    exact ⟨⟨n0, n1, n2⟩, rfl, trivial⟩
theorem rd_us : Reads enc Try.prog w 52 fun cs => ∃ x : Us, cs = usE x ∧ True :=
  (rd_struct1 (R := fun i cs => if i = 0 then ∃ n, cs = [.int .i64 n] ∧ (Lit.int .i64 n).wf = true else ∃ b, cs = [.bool b]) (n := 2) Try.underlying52 (by kernel_rfl) (by kernel_rfl) (fun i f hi => by
    rcases i with _ | _ | i <;> simp at hi <;> subst hi
    · exact int3
    · exact rd_bool Try.underlying4)).mono fun cs ⟨hl, h⟩ => by
  match cs, hl with
  | [c0, c1], _ =>
    obtain ⟨n0, e0, _⟩ := h 0 _ c0 rfl rfl
    obtain ⟨n1, e1⟩ := h 1 _ c1 rfl rfl
    cases e0; cases e1
    exact ⟨⟨n0, n1⟩, rfl, trivial⟩
theorem rd_in : Reads enc Try.prog w 3 fun cs => ∃ x : Int, cs = inE x ∧ True := int3.mono fun cs ⟨n, h, _⟩ => ⟨n, h, trivial⟩
theorem rd_ints : Reads enc Try.prog w 37 fun cs => ∃ A cap, ∃ l : List Int, cs = [.slice A l.length cap] ∧ Kin.At w A 1 (l.map inE) ∧ (∀ x ∈ l, True) ∧ l.length ≤ cap ∧ cap ≤ maxLen := rd_list Try.underlying37 (by kernel_rfl) (by decide) rd_in
theorem rd_uses : Reads enc Try.prog w 44 fun cs => ∃ A cap, ∃ l : List Us, cs = [.slice A l.length cap] ∧ Kin.At w A 2 (l.map usE) ∧ (∀ x ∈ l, True) ∧ l.length ≤ cap ∧ cap ≤ maxLen := rd_list Try.underlying44 (by kernel_rfl) (by decide) rd_us
theorem rd_links : Reads enc Try.prog w 22 fun cs => ∃ A cap, ∃ l : List Lk, cs = [.slice A l.length cap] ∧ Kin.At w A 4 (l.map lkE) ∧ (∀ x ∈ l, True) ∧ l.length ≤ cap ∧ cap ≤ maxLen := rd_list Try.underlying22 (by kernel_rfl) (by decide) rd_lk
theorem rd_sps : Reads enc Try.prog w 22 fun cs => ∃ A cap, ∃ l : List Sp, cs = [.slice A l.length cap] ∧ Kin.At w A 4 (l.map spE) ∧ (∀ x ∈ l, True) ∧ l.length ≤ cap ∧ cap ≤ maxLen := rd_list Try.underlying22 (by kernel_rfl) (by decide) rd_sp
theorem rd_tps : Reads enc Try.prog w 25 fun cs => ∃ A cap, ∃ l : List Tp, cs = [.slice A l.length cap] ∧ Kin.At w A 3 (l.map tpE) ∧ (∀ x ∈ l, True) ∧ l.length ≤ cap ∧ cap ≤ maxLen := rd_list Try.underlying25 (by kernel_rfl) (by decide) rd_tp
theorem rd_pss : Reads enc Try.prog w 26 fun cs => ∃ A cap, ∃ l : List Ps, cs = [.slice A l.length cap] ∧ Kin.At w A 4 (l.map psE) ∧ (∀ x ∈ l, True) ∧ l.length ≤ cap ∧ cap ≤ maxLen := rd_list Try.underlying26 (by kernel_rfl) (by decide) rd_ps
theorem rd_tim : Reads enc Try.prog w 61 fun cs => ∃ n A cap, ∃ l : List Lk, cs = [.int .i64 n, .slice A l.length cap] ∧ Kin.At w A 4 (l.map lkE) :=
  (rd_struct1 (R := fun i cs => if i = 0 then ∃ n, cs = [.int .i64 n] ∧ (Lit.int .i64 n).wf = true else ∃ A cap, ∃ l : List Lk, cs = [.slice A l.length cap] ∧ Kin.At w A 4 (l.map lkE) ∧ (∀ x ∈ l, True) ∧ l.length ≤ cap ∧ cap ≤ maxLen) (n := 2) Try.underlying61 (by kernel_rfl) (by kernel_rfl) (fun i f hi => by
    rcases i with _ | _ | i <;> simp at hi <;> subst hi
    · exact int3
    · exact rd_links)).mono fun cs ⟨hl, h⟩ => by
  match cs, hl with
  | [c0, c1], _ =>
    obtain ⟨n0, e0, hn⟩ := h 0 _ c0 rfl rfl
    obtain ⟨A, cap, l, e1, h1, _⟩ := h 1 _ c1 rfl rfl
    cases e0; cases e1
    exact ⟨n0, A, cap, l, rfl, h1⟩
theorem rd_un : Reads enc Try.prog w 24 fun cs => ∃ u : Un, cs = u.v ∧ u.In w :=
  (rd_struct1 (R := fun i cs => if i = 0 then ∃ n, cs = [.int .i64 n] ∧ (Lit.int .i64 n).wf = true else ∃ A cap, ∃ l : List Lk, cs = [.slice A l.length cap] ∧ Kin.At w A 4 (l.map lkE) ∧ (∀ x ∈ l, True) ∧ l.length ≤ cap ∧ cap ≤ maxLen) (n := 3) Try.underlying24 (by kernel_rfl) (by kernel_rfl) (fun i f hi => by
    rcases i with _ | _ | _ | i <;> simp at hi <;> subst hi
    · exact int3
    · exact rd_links
    · exact rd_links)).mono fun cs ⟨hl, h⟩ => by
  match cs, hl with
  | [c0, c1, c2], _ =>
    obtain ⟨n0, e0, hn⟩ := h 0 _ c0 rfl rfl
    obtain ⟨A, ca, l, e1, h1, _⟩ := h 1 _ c1 rfl rfl
    obtain ⟨B, cb, m, e2, h2, _⟩ := h 2 _ c2 rfl rfl
    cases e0; cases e1; cases e2
    exact ⟨⟨n0, A, ca, l, B, cb, m⟩, rfl, h1, h2⟩
theorem rd_clk : Reads enc Try.prog w 28 fun cs => ∃ c : Clk, cs = c.v ∧ c.In w ∧ c.ps.length ≤ c.cb :=
  (rd_struct1 (R := fun i cs => if i = 0 then ∃ n, cs = [.int .i64 n] ∧ (Lit.int .i64 n).wf = true
    else if i = 1 then ∃ A cap, ∃ l : List Tp, cs = [.slice A l.length cap] ∧ Kin.At w A 3 (l.map tpE) ∧ (∀ x ∈ l, True) ∧ l.length ≤ cap ∧ cap ≤ maxLen
    else if i = 2 then ∃ A cap, ∃ l : List Ps, cs = [.slice A l.length cap] ∧ Kin.At w A 4 (l.map psE) ∧ (∀ x ∈ l, True) ∧ l.length ≤ cap ∧ cap ≤ maxLen
    else ∃ A cap, ∃ l : List Sp, cs = [.slice A l.length cap] ∧ Kin.At w A 4 (l.map spE) ∧ (∀ x ∈ l, True) ∧ l.length ≤ cap ∧ cap ≤ maxLen) (n := 4) Try.underlying28 (by kernel_rfl) (by kernel_rfl) (fun i f hi => by
    rcases i with _ | _ | _ | _ | i <;> simp at hi <;> subst hi
    · exact int3
    · exact rd_tps
    · exact rd_pss
    · exact rd_sps)).mono fun cs ⟨hl, h⟩ => by
  match cs, hl with
  | [c0, c1, c2, c3], _ =>
    obtain ⟨n0, e0, hn⟩ := h 0 _ c0 rfl rfl
    obtain ⟨A, ca, ts, e1, h1, _⟩ := h 1 _ c1 rfl rfl
    obtain ⟨B, cb, ps, e2, h2, _, hc, _⟩ := h 2 _ c2 rfl rfl
    obtain ⟨C, cc, sp, e3, h3, _⟩ := h 3 _ c3 rfl rfl
    cases e0; cases e1; cases e2; cases e3
    exact ⟨⟨n0, ts, ps, sp, A, B, C, ca, cb, cc⟩, rfl, ⟨h1, h2, h3⟩, hc⟩

set_option maxRecDepth 100000 in
theorem arg_un {r : Reach} {b : Nat} {v : Value} {d : DataW H} {p : List MemPlace} (hv : Value.okWide Try.prog w r b 24 v) (h : DataW.Trod enc Try.prog w 0 (fun _ => true) true 24 v d p) : ∃ u : Un, v = .agg ⟨u.v⟩ ∧ u.In w := by
  obtain ⟨cs, rfl, e⟩ := struct_arg Try.underlying24 hv
  obtain ⟨u, h1, h2⟩ := rd_arg rd_un h
  exact ⟨u, by rw [← e, h1], h2⟩
set_option maxRecDepth 100000 in
theorem arg_clk {r : Reach} {b : Nat} {v : Value} {d : DataW H} {p : List MemPlace} (hv : Value.okWide Try.prog w r b 28 v) (h : DataW.Trod enc Try.prog w 0 (fun _ => true) true 28 v d p) : ∃ c : Clk, v = .agg ⟨c.v⟩ ∧ c.In w ∧ c.ps.length ≤ c.cb := by
  obtain ⟨cs, rfl, e⟩ := struct_arg Try.underlying28 hv
  obtain ⟨c, h1, h2, h3⟩ := rd_arg rd_clk h
  exact ⟨c, by rw [← e, h1], h2, h3⟩
set_option maxRecDepth 100000 in
theorem arg_tim {r : Reach} {b : Nat} {v : Value} {d : DataW H} {p : List MemPlace} (hv : Value.okWide Try.prog w r b 61 v) (h : DataW.Trod enc Try.prog w 0 (fun _ => true) true 61 v d p) :
    ∃ n A cap, ∃ l : List Lk, v = .agg ⟨[.int .i64 n, .slice A l.length cap]⟩ ∧ Kin.At w A 4 (l.map lkE) := by
  obtain ⟨cs, rfl, e⟩ := struct_arg Try.underlying61 hv
  obtain ⟨n, A, cap, l, h1, h2⟩ := rd_arg rd_tim h
  exact ⟨n, A, cap, l, by rw [← e, h1], h2⟩
set_option maxRecDepth 100000 in
theorem arg_ints {r : Reach} {b : Nat} {v : Value} {d : DataW H} {p : List MemPlace} (hv : Value.okWide Try.prog w r b 37 v) (h : DataW.Trod enc Try.prog w 0 (fun _ => true) true 37 v d p) :
    ∃ A cap, ∃ l : List Int, v = .slice A l.length cap ∧ Kin.At w A 1 (l.map inE) ∧ l.length ≤ 9223372036854775807 := by
  have e := slice_arg Try.underlying37 hv
  obtain ⟨A, cap, l, h1, h2, _, h3, h4⟩ := rd_arg rd_ints h
  rw [e] at h1
  unfold maxLen at h4
  exact ⟨A, cap, l, by cases h1; rfl, h2, by omega⟩
set_option maxRecDepth 100000 in
theorem arg_uses {r : Reach} {b : Nat} {v : Value} {d : DataW H} {p : List MemPlace} (hv : Value.okWide Try.prog w r b 44 v) (h : DataW.Trod enc Try.prog w 0 (fun _ => true) true 44 v d p) :
    ∃ A cap, ∃ l : List Us, v = .slice A l.length cap ∧ Kin.At w A 2 (l.map usE) ∧ l.length ≤ 9223372036854775807 := by
  have e := slice_arg Try.underlying44 hv
  obtain ⟨A, cap, l, h1, h2, _, h3, h4⟩ := rd_arg rd_uses h
  rw [e] at h1
  unfold maxLen at h4
  exact ⟨A, cap, l, by cases h1; rfl, h2, by omega⟩
end
end R23
end Go.Proofs

/- More arguments of the statements on networks, opened. -/
import Derived.Test.YtakjgfdaaebifaaStFr
import Derived.Test.YtakjgfdaaebifaaStL9
import Derived.SizedLaws
import Derived.OpenShut
set_option linter.unusedSectionVars false
set_option linter.unusedVariables false
set_option linter.unusedSimpArgs false
namespace Go.Proofs
open Go.RowKit Go.Kin Go.Kin.St Go.ChangeShapes Go.WideShapes
namespace R22
section
variable {H : Type} {enc : TypeId × Value → H} {w : World}
theorem arg_lk {r : Reach} {b : Nat} {v : Value} {d : DataW H} {p : List MemPlace} (hv : Value.okWide Try.prog w r b 47 v) (h : DataW.Trod enc Try.prog w 0 (fun _ => true) true 47 v d p) : ∃ x : Lk, v = .agg ⟨lkE x⟩ := by
  obtain ⟨cs, rfl, e⟩ := struct_arg Try.underlying47 hv
  obtain ⟨x, h1, _⟩ := rd_arg rd_lk h
  exact ⟨x, by rw [← e, h1]⟩
theorem rd_u8 : Reads enc Try.prog w 5 fun cs => ∃ x : Int, cs = u8E x ∧ (0 ≤ x ∧ x ≤ 255) := (rd_int Try.underlying5).mono fun cs ⟨n, h, hw⟩ => ⟨n, h, bounds_u8 hw⟩
theorem arg_u8s {r : Reach} {b : Nat} {v : Value} {d : DataW H} {p : List MemPlace} (hv : Value.okWide Try.prog w r b 52 v) (h : DataW.Trod enc Try.prog w 0 (fun _ => true) true 52 v d p) :
    ∃ A cap, ∃ l : List Int, v = .slice A l.length cap ∧ At w A 1 (l.map u8E) ∧ ∀ x ∈ l, 0 ≤ x ∧ x ≤ 255 := by
  have e := slice_arg Try.underlying52 hv
  obtain ⟨A, cap, l, h1, h2, h3, _⟩ := rd_arg (rd_list (sz := 1) Try.underlying52 (by kernel_rfl) (by decide) rd_u8) h
  rw [e] at h1
  exact ⟨A, cap, l, by cases h1; rfl, h2, h3⟩

/-- how many links there can be -/
theorem net_data {n : Int} {A : Option Addr} {len cap : Nat} {d : DataW H} {p : List MemPlace} (h : DataW.Trod enc Try.prog w 0 (fun _ => true) true 24 (.agg ⟨netCells n A len cap⟩) d p) :
    ∃ y0 y1, d = .agg [y0, y1] ∧ (len = 0 ∨ ∃ E S, y1 = .slice E S ∧ E.length = len) := by
  obtain ⟨f, hf⟩ := h
  obtain ⟨xs, m, _, hx, _, hl, hi⟩ := DataW.trod_struct Try.underlying24 hf
  simp only [Prod.mk.injEq] at hx
  match xs, hl with
  | [a, b], _ =>
    refine ⟨a.1, b.1, hx.1, ?_⟩
    have h22 : Try.prog.cellsOf 22 = 1 := by kernel_rfl
    have h1 : DataW.trod enc Try.prog w 0 (fun _ => true) true m 22 [.slice A len cap] = some b := by
      have key : ∀ fl : Field, fl.type = 22 → fl.offset = 1 → DataW.trod enc Try.prog w 0 (fun _ => true) true m fl.type (((Value.agg ⟨netCells n A len cap⟩).cells.toList.drop fl.offset).take (Try.prog.cellsOf fl.type)) = [a, b][1]? →
          DataW.trod enc Try.prog w 0 (fun _ => true) true m 22 [.slice A len cap] = some b := fun fl ht ho h1 => by
        rw [ht, ho, h22] at h1
        exact h1
      exact key _ rfl rfl (hi 1 _ rfl)
    rcases Deep.open_slice Try.underlying22 h1 with ⟨e, _⟩ | ⟨a', len', cap', m', n', D, Pl, e, _, _, _, _, hb, _⟩
    · left
      cases e; rfl
    · right
      cases e
      exact ⟨_, _, by rw [hb], by simp⟩
theorem net_reach {ts : List TypeId} {ds : List (DataW H)} (hsz : (DataW.weightsEach Try.prog ts ds).all (· ≤ reachBytes) = true) {j : Nat} {n : Int} {A : Option Addr} {len cap : Nat} {d : DataW H} {p : List MemPlace} (ht : ts[j]? = some 24) (hd : ds[j]? = some d)
    (h : DataW.Trod enc Try.prog w 0 (fun _ => true) true 24 (.agg ⟨netCells n A len cap⟩) d p) : len * 32 ≤ 140737488351232 := by
  obtain ⟨y0, y1, rfl, h1 | ⟨E, S, rfl, h1⟩⟩ := net_data h
  · omega
  · have hb : Try.prog.bytesOf 47 = 32 := by kernel_rfl
    have h2 := List.all_eq_true.1 hsz _ (DataW.weights_mem_each ht hd ((E.length + S.length) * Try.prog.bytesOf 47) (by simp [DataW.weights, DataW.weightsEach, Try.underlying24, Try.underlying22]))
    simp only [hb, h1, decide_eq_true_eq, reachBytes] at h2
    omega
end
end R22
end Go.Proofs

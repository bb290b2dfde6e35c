/- Arguments opened: what the reading of a type says of its cells. Generic: no program is named here. -/
import Derived.Test.YtnmbglemgkopaaaEng11
import Derived.Deep.Slices
import Derived.Deep.Fields
import Derived.Lib.SmallJoins
import Derived.ChangeSame
set_option linter.unusedSectionVars false
set_option linter.unusedVariables false
set_option linter.unusedSimpArgs false
namespace Go
open Go.RowKit Go.ChangeShapes Go.WideShapes
namespace Kin
section
variable {H : Type} {enc : TypeId × Value → H} {P : Program} {w : World}

/-- whatever reads as a datum of the type has cells of this kind -/
def Reads (enc : TypeId × Value → H) (P : Program) (w : World) (t : TypeId) (R : List Value → Prop) : Prop :=
  ∀ fuel cs x, DataW.trod enc P w 0 (fun _ => true) true fuel t cs = some x → R cs

theorem Reads.mono {t : TypeId} {R S : List Value → Prop} (h : Reads enc P w t R) (k : ∀ cs, R cs → S cs) : Reads enc P w t S := fun f cs x hx => k cs (h f cs x hx)
theorem rd_int {t : TypeId} {k : IntKind} (ht : P.underlying t = some (.int k)) : Reads enc P w t fun cs => ∃ n, cs = [.int k n] ∧ (Lit.int k n).wf = true := fun f cs x hx => by
  obtain ⟨n, h1, _, h2⟩ := DataW.trod_int ht hx
  exact ⟨n, h1, h2⟩
theorem rd_bool {t : TypeId} (ht : P.underlying t = some .bool) : Reads enc P w t fun cs => ∃ b, cs = [.bool b] := fun f cs x hx => by
  obtain ⟨b, h1, _⟩ := DataW.trod_bool ht hx
  exact ⟨b, h1⟩
/-- a record: its cells, and each field's own -/
theorem rd_struct {t : TypeId} {fs : Array Field} {R : Nat → List Value → Prop} {n : Nat} (ht : P.underlying t = some (.struct fs)) (hn : P.cellsOf t = n) (hR : ∀ i f, fs[i]? = some f → Reads enc P w f.type (R i)) :
    Reads enc P w t fun cs => cs.length = n ∧ ∀ i f, fs[i]? = some f → R i ((cs.drop f.offset).take (P.cellsOf f.type)) := fun fu cs x hx => by
  obtain ⟨xs, m, _, _, hl, hxl, h⟩ := DataW.trod_struct ht hx
  refine ⟨hl.trans hn, fun i f hi => ?_⟩
  have h1 := h i f hi
  have hlt : i < xs.length := by rw [hxl]; exact (Array.getElem?_eq_some_iff.1 hi).1
  rw [List.getElem?_eq_getElem hlt] at h1
  exact hR i f hi _ _ _ h1

/-- .. where each field is one cell -/
theorem rd_struct1 {t : TypeId} {fs : Array Field} {R : Nat → List Value → Prop} {n : Nat} (ht : P.underlying t = some (.struct fs)) (hone : Deep.oneCellFields P fs = true) (hn : P.cellsOf t = n) (hR : ∀ i f, fs[i]? = some f → Reads enc P w f.type (R i)) :
    Reads enc P w t fun cs => cs.length = n ∧ ∀ i f c, fs[i]? = some f → cs[i]? = some c → R i [c] := (rd_struct ht hn hR).mono fun cs ⟨h1, h2⟩ => ⟨h1, fun i f c hf hc => by
  have := h2 i f hf
  obtain ⟨o, k⟩ := Deep.hone_of hone i f hf
  rw [o, k] at this
  have hlt := (List.getElem?_eq_some_iff.1 hc).1
  rw [List.drop_eq_getElem_cons hlt, show cs[i] = c from (List.getElem?_eq_some_iff.1 hc).2] at this
  simpa using this⟩

/-- the rows of a slice -/
theorem rd_slice {t e : TypeId} {R : List Value → Prop} {sz : Nat} (ht : P.underlying t = some (.slice e)) (hsz : P.cellsOf e = sz) (h0 : 0 < sz) (hR : Reads enc P w e R) :
    Reads enc P w t fun cs => ∃ A rows cap, cs = [.slice A (List.length rows) cap] ∧ At w A sz rows ∧ (∀ r ∈ rows, R r ∧ r.length = sz) ∧ rows.length ≤ cap ∧ cap ≤ maxLen := fun fu cs x hx => by
  rcases Deep.open_slice ht hx with ⟨h1, _⟩ | ⟨a, len, cap, m, n, D, Pl, h1, _, hle, hmx, hm, _, hi⟩
  · exact ⟨none, [], 0, h1, fun i r hr => by simp at hr, fun r hr => by simp at hr, Nat.le_refl _, Nat.zero_le _⟩
  · simp only [if_true] at hm
    subst hm
    rw [hsz] at hi
    obtain ⟨V, hV⟩ := Deep.choose_lt (α := List Value) (p := fun i r => R r ∧ r.length = sz ∧ ∀ j, j < sz → w.cell? ((a.add (i * sz)).add j) = r[j]?) (n := len) (fun i hil => by
      obtain ⟨cs', hc, ht'⟩ := hi i (by omega)
      obtain ⟨_, hl, hat⟩ := World.cells?_some hc
      exact ⟨cs', hR _ _ _ ht', hl, hat⟩)
    refine ⟨some a, (List.range len).map V, m, by rw [h1]; simp, ?_, ?_, by simpa using hle, hmx⟩
    · intro i r hr
      have hil : i < len := by
        have := (List.getElem?_eq_some_iff.1 hr).1
        simpa using this
      have hr2 : V i = r := by
        rw [List.getElem?_map, List.getElem?_range hil] at hr
        simpa using hr
      have hsp : a.spot = none := by
        obtain ⟨_, hl, hat⟩ := hV 0 (by omega)
        have h3 := hat 0 h0
        rw [Nat.zero_mul] at h3
        have e0 : (a.add 0).add 0 = a := by simp [Addr.add]
        rw [e0, List.getElem?_eq_getElem (by omega)] at h3
        unfold World.cell? at h3
        split at h3
        · split at h3
          · cases h3
          · rename_i hs; simpa using hs
        · cases h3
      obtain ⟨b, o, s⟩ := a
      simp only at hsp
      subst hsp
      refine ⟨b, o, rfl, fun j v hj => ?_⟩
      obtain ⟨_, hl, hat⟩ := hV i hil
      rw [hr2] at hl hat
      have hjl : j < sz := by
        have := (List.getElem?_eq_some_iff.1 hj).1
        omega
      have h4 := hat j hjl
      rw [hj, Deep.add_add] at h4
      rw [← h4]
      congr 1
      unfold Addr.add
      split
      · rename_i e; simp only [Addr.mk.injEq, and_true, true_and]; omega
      · simp only [Addr.mk.injEq, and_true, true_and]; omega
    · intro r hr
      obtain ⟨i, hi2, rfl⟩ := List.mem_map.1 hr
      obtain ⟨h3, h4, _⟩ := hV i (List.mem_range.1 hi2)
      exact ⟨h3, h4⟩

theorem rows_map {α : Type} {e : α → List Value} {Q : α → Prop} : ∀ {rows : List (List Value)}, (∀ r ∈ rows, ∃ x, r = e x ∧ Q x) → ∃ l : List α, rows = l.map e ∧ ∀ x ∈ l, Q x
  | [], _ => ⟨[], rfl, fun _ h => by cases h⟩
  | r :: rows, h => by
    obtain ⟨x, rfl, hx⟩ := h r List.mem_cons_self
    obtain ⟨l, rfl, hl⟩ := rows_map fun r hr => h r (List.mem_cons_of_mem _ hr)
    exact ⟨x :: l, rfl, fun y hy => by
      rcases List.mem_cons.1 hy with rfl | hy
      · exact hx
      · exact hl y hy⟩

/-- a slice whose elements are of the kind `e x` -/
theorem rd_list {α : Type} {t el : TypeId} {e : α → List Value} {Q : α → Prop} {sz : Nat} (ht : P.underlying t = some (.slice el)) (hsz : P.cellsOf el = sz) (h0 : 0 < sz) (hR : Reads enc P w el fun cs => ∃ x, cs = e x ∧ Q x) :
    Reads enc P w t fun cs => ∃ A cap, ∃ l : List α, cs = [.slice A l.length cap] ∧ At w A sz (l.map e) ∧ (∀ x ∈ l, Q x) ∧ l.length ≤ cap ∧ cap ≤ maxLen := (rd_slice ht hsz h0 hR).mono fun cs ⟨A, rows, cap, h1, h2, h3, h4, h5⟩ => by
  obtain ⟨l, rfl, hl⟩ := rows_map (e := e) (Q := Q) fun r hr => (h3 r hr).1
  rw [List.length_map] at h1 h4
  exact ⟨A, cap, l, h1, h2, hl, h4, h5⟩

/-- an argument's cells -/
theorem rd_arg {t : TypeId} {R : List Value → Prop} {v : Value} {d : DataW H} {p : List MemPlace} (hR : Reads enc P w t R) (h : DataW.Trod enc P w 0 (fun _ => true) true t v d p) : R v.cells.toList := by
  obtain ⟨f, hf⟩ := h
  exact hR f _ _ hf
theorem slice_arg {t e : TypeId} {r : Reach} {b : Nat} {v : Value} (ht : P.underlying t = some (.slice e)) (hv : Value.okWide P w r b t v) : v.cells.toList = [v] := by
  obtain ⟨a, len, cap, rfl⟩ := okWide_slice ht hv; rfl
theorem int_arg {t : TypeId} {k : IntKind} {r : Reach} {b : Nat} {v : Value} (ht : P.underlying t = some (.int k)) (hv : Value.okWide P w r b t v) : v.cells.toList = [v] := by
  obtain ⟨n, rfl⟩ := okWide_int ht hv; rfl
theorem struct_arg {t : TypeId} {fs : Array Field} {r : Reach} {b : Nat} {v : Value} (ht : P.underlying t = some (.struct fs)) (hv : Value.okWide P w r b t v) : ∃ l : List Value, v = .agg ⟨l⟩ ∧ v.cells.toList = l := by
  obtain ⟨⟨l⟩, rfl, _⟩ := okWide_struct ht hv
  exact ⟨l, rfl, rfl⟩

end
end Kin
end Go

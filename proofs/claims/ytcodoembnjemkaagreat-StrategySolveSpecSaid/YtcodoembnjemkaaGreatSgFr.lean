/- Arguments opened: what the reading of a type says of its cells. Generic: no program is named here. -/
import Derived.Test.YtcodoembnjemkaaGreatEng8
import Derived.Deep.Slices
import Derived.Deep.Fields
import Derived.Lib.SmallJoins
import Derived.ChangeSame
import Derived.Test.YtcodoembnjemkaaGreatProg
import Derived.Test.YtcodoembnjemkaaGreatSgTab
set_option linter.unusedSectionVars false
set_option linter.unusedVariables false
set_option linter.unusedSimpArgs false
namespace Go
open Go.RowKit Go.ChangeShapes Go.WideShapes
namespace Kin
section
variable {H : Type} {enc : TypeId × Value -> H} {P : Program} {w : World}

/-- whatever reads as a datum of the type has cells of this kind -/
def Reads (enc : TypeId × Value -> H) (P : Program) (w : World) (t : TypeId) (R : List Value -> Prop) : Prop :=
 ∀ fuel cs x, DataW.trod enc P w 0 (fun _ => true) true fuel t cs = some x -> R cs

theorem Reads.mono {t : TypeId} {R S : List Value -> Prop} (h : Reads enc P w t R) (k : ∀ cs, R cs -> S cs) : Reads enc P w t S := fun f cs x hx => k cs (h f cs x hx)
theorem rd_int {t : TypeId} {k : IntKind} (ht : P.underlying t = some (.int k)) : Reads enc P w t fun cs => ∃ n, cs = [.int k n] /\ (Lit.int k n).wf = true := fun f cs x hx => by
 obtain ⟨n, h1, _, h2⟩ := DataW.trod_int ht hx
 exact ⟨n, h1, h2⟩
/-- a record: its cells, and each field's own -/
theorem rd_struct {t : TypeId} {fs : Array Field} {R : Nat -> List Value -> Prop} {n : Nat} (ht : P.underlying t = some (.struct fs)) (hn : P.cellsOf t = n) (hR : ∀ i f, fs[i]? = some f -> Reads enc P w f.type (R i)) :
  Reads enc P w t fun cs => cs.length = n /\ ∀ i f, fs[i]? = some f -> R i ((cs.drop f.offset).take (P.cellsOf f.type)) := fun fu cs x hx => by
 obtain ⟨xs, m, _, _, hl, hxl, h⟩ := DataW.trod_struct ht hx
 refine ⟨hl.trans hn, fun i f hi => ?_⟩
 have h1 := h i f hi
 have hlt : i < xs.length := by rw [hxl]; exact (Array.getElem?_eq_some_iff.1 hi).1
 rw [List.getElem?_eq_getElem hlt] at h1
 exact hR i f hi _ _ _ h1

/-- .. where each field is one cell -/
theorem rd_struct1 {t : TypeId} {fs : Array Field} {R : Nat -> List Value -> Prop} {n : Nat} (ht : P.underlying t = some (.struct fs)) (hone : Deep.oneCellFields P fs = true) (hn : P.cellsOf t = n) (hR : ∀ i f, fs[i]? = some f -> Reads enc P w f.type (R i)) :
  Reads enc P w t fun cs => cs.length = n /\ ∀ i f c, fs[i]? = some f -> cs[i]? = some c -> R i [c] := (rd_struct ht hn hR).mono fun cs ⟨h1, h2⟩ => ⟨h1, fun i f c hf hc => by
 have := h2 i f hf
 obtain ⟨o, k⟩ := Deep.hone_of hone i f hf
 rw [o, k] at this
 have hlt := (List.getElem?_eq_some_iff.1 hc).1
 rw [List.drop_eq_getElem_cons hlt, show cs[i] = c from (List.getElem?_eq_some_iff.1 hc).2] at this
 simpa using this⟩

/-- the rows of a slice -/
theorem rd_slice {t e : TypeId} {R : List Value -> Prop} {sz : Nat} (ht : P.underlying t = some (.slice e)) (hsz : P.cellsOf e = sz) (h0 : 0 < sz) (hR : Reads enc P w e R) :
  Reads enc P w t fun cs => ∃ A rows cap, cs = [.slice A (List.length rows) cap] /\ At w A sz rows /\ (∀ r ∈ rows, R r /\ r.length = sz) /\ rows.length <= cap /\ cap <= maxLen := fun fu cs x hx => by
 rcases Deep.open_slice ht hx with ⟨h1, _⟩ | ⟨a, len, cap, m, n, D, Pl, h1, _, hle, hmx, hm, _, hi⟩
 ·exact ⟨none, [], 0, h1, fun i r hr => by simp at hr, fun r hr => by simp at hr, Nat.le_refl _, Nat.zero_le _⟩
 ·simp only [if_true] at hm
  subst hm
  rw [hsz] at hi
  obtain ⟨V, hV⟩ := Deep.choose_lt (α := List Value) (p := fun i r => R r /\ r.length = sz /\ ∀ j, j < sz -> w.cell? ((a.add (i * sz)).add j) = r[j]?) (n := len) (fun i hil => by
   obtain ⟨cs', hc, ht'⟩ := hi i (by omega)
   obtain ⟨_, hl, hat⟩ := World.cells?_some hc
   exact ⟨cs', hR _ _ _ ht', hl, hat⟩)
  refine ⟨some a, (List.range len).map V, m, by rw [h1]; simp, ?_, ?_, by simpa using hle, hmx⟩
  ·intro i r hr
   have hil : i < len := by
    have := (List.getElem?_eq_some_iff.1 hr).1
    simpa using this
   have hr2 : V i = r := by
    rw [List.getElem?_map, List.getElem?_range hil] at hr
    simpa using hr
   have hsp : a.spot = none := by
    obtain ⟨_, hl, hat⟩ := hV 0 (by omega)
    have h3 := hat 0 h0
    rw [Nat.zero_mul] at h3
    have e0 : (a.add 0).add 0 = a := by simp [Addr.add]
    rw [e0, List.getElem?_eq_getElem (by omega)] at h3
    unfold World.cell? at h3
    split at h3
    ·split at h3
     ·cases h3
     ·rename_i hs; simpa using hs
    ·cases h3
   obtain ⟨b, o, s⟩ := a
   simp only at hsp
   subst hsp
   refine ⟨b, o, rfl, fun j v hj => ?_⟩
   obtain ⟨_, hl, hat⟩ := hV i hil
   rw [hr2] at hl hat
   have hjl : j < sz := by
    have := (List.getElem?_eq_some_iff.1 hj).1
    omega
   have h4 := hat j hjl
   rw [hj, Deep.add_add] at h4
   rw [<- h4]
   congr 1
   unfold Addr.add
   split
   ·rename_i e; simp only [Addr.mk.injEq, and_true, true_and]; omega
   ·simp only [Addr.mk.injEq, and_true, true_and]; omega
  ·intro r hr
   obtain ⟨i, hi2, rfl⟩ := List.mem_map.1 hr
   obtain ⟨h3, h4, _⟩ := hV i (List.mem_range.1 hi2)
   exact ⟨h3, h4⟩

theorem rows_map {α : Type} {e : α -> List Value} {Q : α -> Prop} : ∀ {rows : List (List Value)}, (∀ r ∈ rows, ∃ x, r = e x /\ Q x) -> ∃ l : List α, rows = l.map e /\ ∀ x ∈ l, Q x
 | [], _ => ⟨[], rfl, fun _ h => by cases h⟩
 | r :: rows, h => by
  obtain ⟨x, rfl, hx⟩ := h r List.mem_cons_self
  obtain ⟨l, rfl, hl⟩ := rows_map fun r hr => h r (List.mem_cons_of_mem _ hr)
  exact ⟨x :: l, rfl, fun y hy => by
   rcases List.mem_cons.1 hy with rfl | hy
   ·exact hx
   ·exact hl y hy⟩

/-- a slice whose elements are of the kind `e x` -/
theorem rd_list {α : Type} {t el : TypeId} {e : α -> List Value} {Q : α -> Prop} {sz : Nat} (ht : P.underlying t = some (.slice el)) (hsz : P.cellsOf el = sz) (h0 : 0 < sz) (hR : Reads enc P w el fun cs => ∃ x, cs = e x /\ Q x) :
  Reads enc P w t fun cs => ∃ A cap, ∃ l : List α, cs = [.slice A l.length cap] /\ At w A sz (l.map e) /\ (∀ x ∈ l, Q x) /\ l.length <= cap /\ cap <= maxLen := (rd_slice ht hsz h0 hR).mono fun cs ⟨A, rows, cap, h1, h2, h3, h4, h5⟩ => by
 obtain ⟨l, rfl, hl⟩ := rows_map (e := e) (Q := Q) fun r hr => (h3 r hr).1
 rw [List.length_map] at h1 h4
 exact ⟨A, cap, l, h1, h2, hl, h4, h5⟩

/-- an argument's cells -/
theorem rd_arg {t : TypeId} {R : List Value -> Prop} {v : Value} {d : DataW H} {p : List MemPlace} (hR : Reads enc P w t R) (h : DataW.Trod enc P w 0 (fun _ => true) true t v d p) : R v.cells.toList := by
 obtain ⟨f, hf⟩ := h
 exact hR f _ _ hf
theorem struct_arg {t : TypeId} {fs : Array Field} {r : Reach} {b : Nat} {v : Value} (ht : P.underlying t = some (.struct fs)) (hv : Value.okWide P w r b t v) : ∃ l : List Value, v = .agg ⟨l⟩ /\ v.cells.toList = l := by
 obtain ⟨⟨l⟩, rfl, _⟩ := okWide_struct ht hv
 exact ⟨l, rfl, rfl⟩

end
end Kin
end Go

set_option maxRecDepth 100000
set_option maxHeartbeats 400000000
namespace Go.Proofs
open Go.RowKit Go.Kin Go.Kin.St Go.Kin.Ct Go.Kin.Sg Go.ChangeShapes Go.WideShapes
namespace R24
open R22 (lkE)
section
variable {H : Type} {enc : TypeId × Value -> H} {w : World}
theorem int3 : Reads enc Tryz.prog w 3 fun cs => ∃ n, cs = [.int .i64 n] /\ (Lit.int .i64 n).wf = true := rd_int Tryz.underlying3
theorem rd_lk : Reads enc Tryz.prog w 76 fun cs => ∃ x : Lk, cs = lkE x /\ True :=
 (rd_struct1 (R := fun _ cs => ∃ n, cs = [.int .i64 n] /\ (Lit.int .i64 n).wf = true) (n := 4) Tryz.underlying76 (by kernel_rfl) (by kernel_rfl) (fun i f hi => by
  rcases i with _ | _ | _ | _ | i <;> simp at hi <;> subst hi <;> exact int3)).mono fun cs ⟨hl, h⟩ => by
 match cs, hl with
 | [c0, c1, c2, c3], _ =>
  obtain ⟨n0, e0, _⟩ := h 0 _ c0 rfl rfl
  obtain ⟨n1, e1, _⟩ := h 1 _ c1 rfl rfl
  obtain ⟨n2, e2, _⟩ := h 2 _ c2 rfl rfl
  obtain ⟨n3, e3, _⟩ := h 3 _ c3 rfl rfl
  cases e0; cases e1; cases e2; cases e3
  exact ⟨⟨n0, n1, n2, n3⟩, rfl, trivial⟩
theorem rd_links : Reads enc Tryz.prog w 22 fun cs => ∃ A cap, ∃ l : List Lk, cs = [.slice A l.length cap] /\ Kin.At w A 4 (l.map lkE) /\ (∀ x ∈ l, True) /\ l.length <= cap /\ cap <= maxLen := rd_list Tryz.underlying22 (by kernel_rfl) (by decide) rd_lk
theorem rd_un : Reads enc Tryz.prog w 24 fun cs => ∃ u : R23.Un, cs = u.v /\ u.In w :=
 (rd_struct1 (R := fun i cs => if i = 0 then ∃ n, cs = [.int .i64 n] /\ (Lit.int .i64 n).wf = true else ∃ A cap, ∃ l : List Lk, cs = [.slice A l.length cap] /\ Kin.At w A 4 (l.map lkE) /\ (∀ x ∈ l, True) /\ l.length <= cap /\ cap <= maxLen) (n := 3) Tryz.underlying24 (by kernel_rfl) (by kernel_rfl) (fun i f hi => by
  rcases i with _ | _ | _ | i <;> simp at hi <;> subst hi
  ·exact int3
  ·exact rd_links
  ·exact rd_links)).mono fun cs ⟨hl, h⟩ => by
 match cs, hl with
 | [c0, c1, c2], _ =>
  obtain ⟨n0, e0, hn⟩ := h 0 _ c0 rfl rfl
  obtain ⟨A, ca, l, e1, h1, _⟩ := h 1 _ c1 rfl rfl
  obtain ⟨B, cb, m, e2, h2, _⟩ := h 2 _ c2 rfl rfl
  cases e0; cases e1; cases e2
  exact ⟨⟨n0, A, ca, l, B, cb, m⟩, rfl, h1, h2⟩
variable {r : Reach} {b : Nat} {v : Value} {d : DataW H} {p : List MemPlace}
theorem arg_un (hv : Value.okWide Tryz.prog w r b 24 v) (h : DataW.Trod enc Tryz.prog w 0 (fun _ => true) true 24 v d p) : ∃ u : R23.Un, v = .agg ⟨u.v⟩ /\ u.In w := by
 obtain ⟨cs, rfl, e⟩ := struct_arg Tryz.underlying24 hv
 obtain ⟨u, h1, h2⟩ := rd_arg rd_un h
 exact ⟨u, by rw [<- e, h1], h2⟩
end
end R24
end Go.Proofs

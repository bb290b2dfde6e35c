/- Arguments opened: what the reading of a type says of its cells. Generic: no program is named here. -/
import Derived.Test.YtdegengehbdelaaGreatDoorEng9
import Derived.Deep.Slices
import Derived.Deep.Fields
import Derived.Lib.SmallJoins
import Derived.ChangeSame
import Derived.Test.YtdegengehbdelaaGreatDoorRows
import Derived.Test.YtdegengehbdelaaGreatDoorClL
import Derived.Test.YtdegengehbdelaaGreatDoorRtNum
import Derived.OpenShut
import Derived.LaidMore
import Derived.Lay
set_option linter.unusedSectionVars false
set_option linter.unusedVariables false
set_option linter.unusedSimpArgs false
namespace Go
open Go.RowKit Go.ChangeShapes Go.WideShapes
namespace Kin
section
variable {H : Type} {enc : TypeId × Value -> H} {P : Program} {w : World}

/-- whatever reads as a datum of the type has cells of this kind -/
def Reads (enc : TypeId × Value -> H) (P : Program) (w : World) (t : TypeId) (R : List Value -> Prop) : Prop :=
 ∀ fuel cs x, DataW.trod enc P w 0 (fun _ => true) true fuel t cs = some x -> R cs

theorem Reads.mono {t : TypeId} {R S : List Value -> Prop} (h : Reads enc P w t R) (k : ∀ cs, R cs -> S cs) : Reads enc P w t S := fun f cs x hx => k cs (h f cs x hx)
theorem rd_int {t : TypeId} {k : IntKind} (ht : P.underlying t = some (.int k)) : Reads enc P w t fun cs => ∃ n, cs = [.int k n] /\ (Lit.int k n).wf = true := fun f cs x hx => by
 obtain ⟨n, h1, _, h2⟩ := DataW.trod_int ht hx
 exact ⟨n, h1, h2⟩
theorem rd_bool {t : TypeId} (ht : P.underlying t = some .bool) : Reads enc P w t fun cs => ∃ b, cs = [.bool b] := fun f cs x hx => by
 obtain ⟨b, h1, _⟩ := DataW.trod_bool ht hx
 exact ⟨b, h1⟩
/-- a record: its cells, and each field's own -/
theorem rd_struct {t : TypeId} {fs : Array Field} {R : Nat -> List Value -> Prop} {n : Nat} (ht : P.underlying t = some (.struct fs)) (hn : P.cellsOf t = n) (hR : ∀ i f, fs[i]? = some f -> Reads enc P w f.type (R i)) :
  Reads enc P w t fun cs => cs.length = n /\ ∀ i f, fs[i]? = some f -> R i ((cs.drop f.offset).take (P.cellsOf f.type)) := fun fu cs x hx => by
 obtain ⟨xs, m, _, _, hl, hxl, h⟩ := DataW.trod_struct ht hx
 refine ⟨hl.trans hn, fun i f hi => ?_⟩
 have h1 := h i f hi
 have hlt : i < xs.length := by rw [hxl]; exact (Array.getElem?_eq_some_iff.1 hi).1
 rw [List.getElem?_eq_getElem hlt] at h1
 exact hR i f hi _ _ _ h1

/-- .. where each field is one cell -/
theorem rd_struct1 {t : TypeId} {fs : Array Field} {R : Nat -> List Value -> Prop} {n : Nat} (ht : P.underlying t = some (.struct fs)) (hone : Deep.oneCellFields P fs = true) (hn : P.cellsOf t = n) (hR : ∀ i f, fs[i]? = some f -> Reads enc P w f.type (R i)) :
  Reads enc P w t fun cs => cs.length = n /\ ∀ i f c, fs[i]? = some f -> cs[i]? = some c -> R i [c] := (rd_struct ht hn hR).mono fun cs ⟨h1, h2⟩ => ⟨h1, fun i f c hf hc => by
 have := h2 i f hf
 obtain ⟨o, k⟩ := Deep.hone_of hone i f hf
 rw [o, k] at this
 have hlt := (List.getElem?_eq_some_iff.1 hc).1
 rw [List.drop_eq_getElem_cons hlt, show cs[i] = c from (List.getElem?_eq_some_iff.1 hc).2] at this
 simpa using this⟩

/-- the rows of a slice -/
theorem rd_slice {t e : TypeId} {R : List Value -> Prop} {sz : Nat} (ht : P.underlying t = some (.slice e)) (hsz : P.cellsOf e = sz) (h0 : 0 < sz) (hR : Reads enc P w e R) :
  Reads enc P w t fun cs => ∃ A rows cap, cs = [.slice A (List.length rows) cap] /\ At w A sz rows /\ (∀ r ∈ rows, R r /\ r.length = sz) /\ rows.length <= cap /\ cap <= maxLen := fun fu cs x hx => by
 rcases Deep.open_slice ht hx with ⟨h1, _⟩ | ⟨a, len, cap, m, n, D, Pl, h1, _, hle, hmx, hm, _, hi⟩
 ·exact ⟨none, [], 0, h1, fun i r hr => by simp at hr, fun r hr => by simp at hr, Nat.le_refl _, Nat.zero_le _⟩
 ·simp only [if_true] at hm
  subst hm
  rw [hsz] at hi
  obtain ⟨V, hV⟩ := Deep.choose_lt (α := List Value) (p := fun i r => R r /\ r.length = sz /\ ∀ j, j < sz -> w.cell? ((a.add (i * sz)).add j) = r[j]?) (n := len) (fun i hil => by
   obtain ⟨cs', hc, ht'⟩ := hi i (by omega)
   obtain ⟨_, hl, hat⟩ := World.cells?_some hc
   exact ⟨cs', hR _ _ _ ht', hl, hat⟩)
  refine ⟨some a, (List.range len).map V, m, by rw [h1]; simp, ?_, ?_, by simpa using hle, hmx⟩
  ·intro i r hr
   have hil : i < len := by
    have := (List.getElem?_eq_some_iff.1 hr).1
    simpa using this
   have hr2 : V i = r := by
    rw [List.getElem?_map, List.getElem?_range hil] at hr
    simpa using hr
   have hsp : a.spot = none := by
    obtain ⟨_, hl, hat⟩ := hV 0 (by omega)
    have h3 := hat 0 h0
    rw [Nat.zero_mul] at h3
    have e0 : (a.add 0).add 0 = a := by simp [Addr.add]
    rw [e0, List.getElem?_eq_getElem (by omega)] at h3
    unfold World.cell? at h3
    split at h3
    ·split at h3
     ·cases h3
     ·rename_i hs; simpa using hs
    ·cases h3
   obtain ⟨b, o, s⟩ := a
   simp only at hsp
   subst hsp
   refine ⟨b, o, rfl, fun j v hj => ?_⟩
   obtain ⟨_, hl, hat⟩ := hV i hil
   rw [hr2] at hl hat
   have hjl : j < sz := by
    have := (List.getElem?_eq_some_iff.1 hj).1
    omega
   have h4 := hat j hjl
   rw [hj, Deep.add_add] at h4
   rw [<- h4]
   congr 1
   unfold Addr.add
   split
   ·rename_i e; simp only [Addr.mk.injEq, and_true, true_and]; omega
   ·simp only [Addr.mk.injEq, and_true, true_and]; omega
  ·intro r hr
   obtain ⟨i, hi2, rfl⟩ := List.mem_map.1 hr
   obtain ⟨h3, h4, _⟩ := hV i (List.mem_range.1 hi2)
   exact ⟨h3, h4⟩

theorem rows_map {α : Type} {e : α -> List Value} {Q : α -> Prop} : ∀ {rows : List (List Value)}, (∀ r ∈ rows, ∃ x, r = e x /\ Q x) -> ∃ l : List α, rows = l.map e /\ ∀ x ∈ l, Q x
 | [], _ => ⟨[], rfl, fun _ h => by cases h⟩
 | r :: rows, h => by
  obtain ⟨x, rfl, hx⟩ := h r List.mem_cons_self
  obtain ⟨l, rfl, hl⟩ := rows_map fun r hr => h r (List.mem_cons_of_mem _ hr)
  exact ⟨x :: l, rfl, fun y hy => by
   rcases List.mem_cons.1 hy with rfl | hy
   ·exact hx
   ·exact hl y hy⟩

/-- a slice whose elements are of the kind `e x` -/
theorem rd_list {α : Type} {t el : TypeId} {e : α -> List Value} {Q : α -> Prop} {sz : Nat} (ht : P.underlying t = some (.slice el)) (hsz : P.cellsOf el = sz) (h0 : 0 < sz) (hR : Reads enc P w el fun cs => ∃ x, cs = e x /\ Q x) :
  Reads enc P w t fun cs => ∃ A cap, ∃ l : List α, cs = [.slice A l.length cap] /\ At w A sz (l.map e) /\ (∀ x ∈ l, Q x) /\ l.length <= cap /\ cap <= maxLen := (rd_slice ht hsz h0 hR).mono fun cs ⟨A, rows, cap, h1, h2, h3, h4, h5⟩ => by
 obtain ⟨l, rfl, hl⟩ := rows_map (e := e) (Q := Q) fun r hr => (h3 r hr).1
 rw [List.length_map] at h1 h4
 exact ⟨A, cap, l, h1, h2, hl, h4, h5⟩

/-- an argument's cells -/
theorem rd_arg {t : TypeId} {R : List Value -> Prop} {v : Value} {d : DataW H} {p : List MemPlace} (hR : Reads enc P w t R) (h : DataW.Trod enc P w 0 (fun _ => true) true t v d p) : R v.cells.toList := by
 obtain ⟨f, hf⟩ := h
 exact hR f _ _ hf
theorem slice_arg {t e : TypeId} {r : Reach} {b : Nat} {v : Value} (ht : P.underlying t = some (.slice e)) (hv : Value.okWide P w r b t v) : v.cells.toList = [v] := by
 obtain ⟨a, len, cap, rfl⟩ := okWide_slice ht hv; rfl
end
end Kin
end Go

set_option maxRecDepth 100000
set_option maxHeartbeats 400000000
namespace Go.Proofs
open Go.RowKit Go.Kin Go.Kin.Cl Go.ChangeShapes Go.WideShapes
namespace R41
set_option maxRecDepth 100000
section
variable {H : Type} {enc : TypeId × Value -> H} {w : World}
theorem int3 : Reads enc Tryz.prog w 3 fun cs => ∃ n, cs = [.int .i64 n] /\ (-9223372036854775808 <= n /\ n <= 9223372036854775807) := (rd_int Tryz.underlying3).mono fun cs ⟨n, h, hw⟩ => ⟨n, h, bounds_i64 hw⟩
theorem rd_ratio : Reads enc Tryz.prog w 50 fun cs => ∃ n d : Int, cs = [.int .i64 n, .int .i64 d] /\ I64 n /\ I64 d :=
 (rd_struct1 (R := fun _ cs => ∃ n, cs = [.int .i64 n] /\ (-9223372036854775808 <= n /\ n <= 9223372036854775807)) (n := 2) Tryz.underlying50 (by kernel_rfl) (by kernel_rfl) (fun i f hi => by
  rcases i with _ | _ | i <;> simp at hi <;> subst hi <;> exact int3)).mono fun cs ⟨hl, h⟩ => by
 match cs, hl with
 | [c0, c1], _ =>
  obtain ⟨n0, e0, b0⟩ := h 0 _ c0 rfl rfl
  obtain ⟨n1, e1, b1⟩ := h 1 _ c1 rfl rfl
  cases e0; cases e1
  exact ⟨n0, n1, rfl, b0, b1⟩
theorem rd_sg : Reads enc Tryz.prog w 52 fun cs => ∃ s : Sg, cs = sgE s /\ s.wf :=
 (rd_struct (R := fun i cs => if i < 10 then ∃ n, cs = [.int .i64 n] /\ (-9223372036854775808 <= n /\ n <= 9223372036854775807) else ∃ n d : Int, cs = [.int .i64 n, .int .i64 d] /\ I64 n /\ I64 d) (n := 14) Tryz.underlying52 (by kernel_rfl) (fun i f hi => by
  rcases i with _ | _ | _ | _ | _ | _ | _ | _ | _ | _ | _ | _ | i <;> simp at hi <;> subst hi
  iterate 10 exact int3
  ·exact rd_ratio
  ·exact rd_ratio)).mono fun cs ⟨hl, h⟩ => by
 match cs, hl with
 | [c0, c1, c2, c3, c4, c5, c6, c7, c8, c9, c10, c11, c12, c13], _ =>
  obtain ⟨n0, e0, -⟩ := h 0 _ rfl
  obtain ⟨n1, e1, -⟩ := h 1 _ rfl
  obtain ⟨n2, e2, -⟩ := h 2 _ rfl
  obtain ⟨n3, e3, -⟩ := h 3 _ rfl
  obtain ⟨n4, e4, -⟩ := h 4 _ rfl
  obtain ⟨n5, e5, -⟩ := h 5 _ rfl
  obtain ⟨n6, e6, -⟩ := h 6 _ rfl
  obtain ⟨n7, e7, -⟩ := h 7 _ rfl
  obtain ⟨n8, e8, -⟩ := h 8 _ rfl
  obtain ⟨n9, e9, -⟩ := h 9 _ rfl
  obtain ⟨n10, n11, e10, b10, b11⟩ := h 10 _ rfl
  obtain ⟨n12, n13, e12, b12, b13⟩ := h 11 _ rfl
  cases e0; cases e1; cases e2; cases e3; cases e4; cases e5; cases e6; cases e7; cases e8; cases e9; cases e10; cases e12
  exact ⟨⟨n0, n1, n2, n3, n4, n5, n6, n7, n8, n9, n10, n11, n12, n13⟩, rfl, ⟨b10, b11, b12, b13⟩⟩
theorem rd_rd : Reads enc Tryz.prog w 55 fun cs => ∃ r : Rd, cs = rdE r /\ r.s.wf :=
 (rd_struct (R := fun i cs => if i = 0 then ∃ b, cs = [.bool b] else ∃ s : Sg, cs = sgE s /\ s.wf) (n := 15) Tryz.underlying55 (by kernel_rfl) (fun i f hi => by
  rcases i with _ | _ | i <;> simp at hi <;> subst hi
  ·exact rd_bool Tryz.underlying4
  ·exact rd_sg)).mono fun cs ⟨hl, h⟩ => by
 match cs, hl with
 | [c0, c1, c2, c3, c4, c5, c6, c7, c8, c9, c10, c11, c12, c13, c14], _ =>
  obtain ⟨b, e0⟩ := h 0 _ rfl
  obtain ⟨s, e1, hs⟩ := h 1 _ rfl
  cases e0
  have e1 : [c1, c2, c3, c4, c5, c6, c7, c8, c9, c10, c11, c12, c13, c14] = sgE s := e1
  exact ⟨⟨b, s⟩, by rw [e1], hs⟩
theorem rd_rds : Reads enc Tryz.prog w 46 fun cs => ∃ A cap, ∃ l : List Rd, cs = [.slice A l.length cap] /\ Kin.At w A 15 (l.map rdE) /\ (∀ x ∈ l, x.s.wf) /\ l.length <= cap /\ cap <= maxLen := rd_list Tryz.underlying46 (by kernel_rfl) (by decide) rd_rd
theorem rd_wi : Reads enc Tryz.prog w 48 fun cs => ∃ x : Wi, cs = wiE x /\ WiOK w x :=
 (rd_struct1 (R := fun i cs => if i < 2 then ∃ n, cs = [.int .i64 n] /\ (-9223372036854775808 <= n /\ n <= 9223372036854775807) else ∃ A cap, ∃ l : List Rd, cs = [.slice A l.length cap] /\ Kin.At w A 15 (l.map rdE) /\ (∀ x ∈ l, x.s.wf) /\ l.length <= cap /\ cap <= maxLen) (n := 3) Tryz.underlying48 (by kernel_rfl) (by kernel_rfl) (fun i f hi => by
  rcases i with _ | _ | _ | i <;> simp at hi <;> subst hi
  ·exact int3
  ·exact int3
  ·exact rd_rds)).mono fun cs ⟨hl, h⟩ => by
 match cs, hl with
 | [c0, c1, c2], _ =>
  obtain ⟨n0, e0, -⟩ := h 0 _ c0 rfl rfl
  obtain ⟨n1, e1, -⟩ := h 1 _ c1 rfl rfl
  obtain ⟨A, cap, l, e2, h1, h2, h3, h4⟩ := h 2 _ c2 rfl rfl
  cases e0; cases e1; cases e2
  exact ⟨⟨n0, n1, A, cap, l⟩, rfl, h1, h2, by unfold maxLen at h4; simp only; omega⟩
theorem rd_wis : Reads enc Tryz.prog w 22 fun cs => ∃ A cap, ∃ l : List Wi, cs = [.slice A l.length cap] /\ Kin.At w A 3 (l.map wiE) /\ (∀ x ∈ l, WiOK w x) /\ l.length <= cap /\ cap <= maxLen := rd_list Tryz.underlying22 (by kernel_rfl) (by decide) rd_wi
variable {r : Reach} {b : Nat} {v : Value} {d : DataW H} {p : List MemPlace}
theorem arg_wis (hv : Value.okWide Tryz.prog w r b 22 v) (h : DataW.Trod enc Tryz.prog w 0 (fun _ => true) true 22 v d p) :
  ∃ A cap, ∃ l : List Wi, v = .slice A l.length cap /\ Kin.At w A 3 (l.map wiE) /\ (∀ x ∈ l, WiOK w x) /\ l.length <= 9223372036854775807 := by
 have e := slice_arg Tryz.underlying22 hv
 obtain ⟨A, cap, l, h1, h2, h3, h4, h5⟩ := rd_arg rd_wis h
 rw [e] at h1
 exact ⟨A, cap, l, by cases h1; rfl, h2, h3, by unfold maxLen at h5; omega⟩
end
def laidL : List (String × DataW Unit) := [("math/bits.deBruijn32tab", YtdegengehbdelaaGreatDoor.Rows.laid_math_bits_deBruijn32tab), ("math/bits.deBruijn64tab", YtdegengehbdelaaGreatDoor.Rows.laid_math_bits_deBruijn64tab)]
theorem glob_laid {W : World} (h : laidMetH Tryz.prog laidL W) : Glob W := by
 rw [MakeChecks.laidMetH_plain _ _ _ (by kernel_rfl)] at h
 obtain ⟨ps, ⟨g0, t0, cs0, f0, p0, q0, hg0, ht0, hv0, hd0, ⟨g1, t1, cs1, f1, p1, q1, hg1, ht1, hv1, hd1, _, _⟩, _⟩, _, _⟩ := h
 obtain rfl := Option.some.inj ((show Tryz.prog.globalNamed "math/bits.deBruijn64tab" = some 1 by kernel_rfl).symm.trans hg1)
 obtain rfl := Option.some.inj ((show (Tryz.prog.globals[1]?).map (·.type) = some 155 by kernel_rfl).symm.trans ht1)
 obtain ⟨xs, m, _, ex, _, hl, hel⟩ := DataW.trod_array Tryz.underlying155 hd1
 have c5 : Tryz.prog.cellsOf 5 = 1 := by kernel_rfl
 have key : ∀ (i : Nat) (z0 : Int), i < 64 -> (match (YtdegengehbdelaaGreatDoor.Rows.laid_math_bits_deBruijn64tab : DataW Unit) with | .agg l => l[i]? | _ => none) = some (.lit (.int .u8 z0)) -> W.cell? ⟨1, i, none⟩ = some (.int .u8 z0) := fun i z0 hi hz => by
  have hE := hel i hi
  rw [c5, Nat.mul_one, List.getElem?_eq_getElem (by omega)] at hE
  obtain ⟨z, e1, e2, _⟩ := DataW.trod_int Tryz.underlying5 hE
  have e3 : (YtdegengehbdelaaGreatDoor.Rows.laid_math_bits_deBruijn64tab : DataW Unit) = .agg (xs.map (·.1)) := (Prod.mk.inj ex).1
  rw [e3] at hz
  simp only [List.getElem?_map, List.getElem?_eq_getElem (by omega : i < xs.length), Option.map_some, Option.some.injEq] at hz
  rw [e2] at hz
  have hzz : z0 = z := by simpa using hz.symm
  subst hzz
  rw [World.var?_cell hg1 hv1 i]
  have : cs1.toList[i]? = some (.int .u8 z0) := by
   have h0 : ((cs1.toList.drop i).take 1)[0]? = some (.int .u8 z0) := by rw [e1]; rfl
   simpa using h0
  simpa using this
 intro i hi
 match i, hi with
 | 0, _ => exact key 0 0 (by decide) rfl
 | 1, _ => exact key 1 1 (by decide) rfl
 | 2, _ => exact key 3 2 (by decide) rfl
 | 3, _ => exact key 7 3 (by decide) rfl
 | 4, _ => exact key 15 4 (by decide) rfl
end R41
end Go.Proofs

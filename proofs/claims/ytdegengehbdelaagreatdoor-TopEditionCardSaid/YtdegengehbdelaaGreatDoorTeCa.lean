/- From witnesses to the edition: rules for the walk of the law. -/
import Derived.Test.YtdegengehbdelaaGreatDoorSfO
import Derived.Test.YtdegengehbdelaaGreatDoorSfM
import Derived.Test.YtdegengehbdelaaGreatDoorTeA
import Derived.Test.YtdegengehbdelaaGreatDoorSeG
set_option linter.unusedSectionVars false
set_option linter.unusedVariables false
set_option linter.unusedSimpArgs false
namespace Go.Proofs
open Go.RowKit Go.Kin Go.Kin.Se Go.Kin.Cl
namespace R41
section
variable {P : Program} {N : Nat} {c : Cx} {env : List (Nat × Value)} {mem : List (Nat × Obj)} {ty : TypeId} {pos : String} {af : Array Edge} {g : Option (Nat × Bool)} {dd : Option Tmp}
theorem v_remN [Wide c.F] {t t' : TypeId} {x y : Operand} {a b q : Nat} (hx : evOp env x = some (.int .i64 (a : Int))) (hy : evOp env y = some (.int .i64 (b : Int))) (h : 0 < b) (hq : a % b = q) : OpVal P N c env mem ⟨dd, .binOp .rem t x y t', ty, pos, af, g⟩ (.int .i64 (q : Int)) := by
 subst hq
 have h1 := v_rem (P := P) (N := N) (c := c) (mem := mem) (dd := dd) (t := t) (t' := t') (ty := ty) (pos := pos) (af := af) (g := g) hx hy (by omega) (by omega)
 have e : ((a % b : Nat) : Int) = (a : Int) % (b : Int) := rfl
 rw [e]
 exact h1
end
theorem flat1 {α : Type} {f : α -> List Value} (hf : ∀ x, ∃ v, f x = [v]) : ∀ (l : List α) (i : Nat) (v : Value), ((l.map f).flatten)[i]? = some v -> (l.map f)[i]? = some [v]
 | [], i, v, h => by simp at h
 | x :: l, 0, v, h => by
  obtain ⟨u, hu⟩ := hf x
  rw [List.map_cons, List.flatten_cons, hu] at h
  simp only [List.map_cons, hu, List.getElem?_cons_zero]
  cases h; rfl
 | x :: l, i + 1, v, h => by
  obtain ⟨u, hu⟩ := hf x
  rw [List.map_cons, List.flatten_cons, hu] at h
  rw [List.map_cons, List.getElem?_cons_succ]
  exact flat1 hf l i v h
theorem at_flat1 {α : Type} {f : α -> List Value} (hf : ∀ x, ∃ v, f x = [v]) {w : World} {A : Option Addr} {l : List α} (hA : Kin.At w A 1 (l.map f)) (h : l ≠ []) : ∃ b o, A = some ⟨b, o, none⟩ /\ Ext w (allBut w (List.map (·.1) ([] : List (Nat × Obj)))) b o (l.map f).flatten := by
 obtain ⟨x, l', rfl⟩ := List.exists_cons_of_ne_nil h
 obtain ⟨u, hu⟩ := hf x
 obtain ⟨b, o, rfl, hc⟩ := hA 0 (f x) rfl
 refine ⟨b, o, rfl, ⟨lt_of_cell (hc 0 u (by rw [hu]; rfl)), by simp⟩, fun i v hi => ?_⟩
 obtain ⟨b', o', e, hc'⟩ := hA i [v] (flat1 hf _ i v hi)
 cases e
 have := hc' 0 v rfl
 rw [Nat.mul_one] at this
 exact this
theorem rvE_rows (l : List RV) : ((l.map rvE).flatten).length = l.length * 1 := by
 induction l with
 | nil => rfl
 | cons x l ih => rw [List.map_cons, List.flatten_cons, List.length_append, ih]; show 1 + l.length * 1 = (l.length + 1) * 1; omega
theorem one1 {α : Type} {f : α -> List Value} (hf : ∀ x, ∃ v, f x = [v] /\ v.oneCell' = true) : ∀ (l : List α), ∀ v ∈ (l.map f).flatten, v.oneCell' = true := fun l v hv => by
 obtain ⟨r, hr, hv⟩ := List.mem_flatten.1 hv
 obtain ⟨x, _, rfl⟩ := List.mem_map.1 hr
 obtain ⟨u, hu, h1⟩ := hf x
 rw [hu] at hv
 rw [List.mem_singleton.1 hv]; exact h1
theorem at_gM' {α : Type} {w0 W : World} {D : Nat -> Prop} {J : (Nat -> Prop) -> World -> Prop} {mem : List (Nat × Obj)} {f : α -> List Value} {T : TypeId} {sz : Nat} {l : List α} {b : Nat} {rest : List Value} (hW : SatW w0 D J mem W) (h : ∀ p ∈ gM f T l b rest, p ∈ mem)
  (hsz : ∀ x, (f x).length = sz) (hne : l ≠ []) : Kin.At W (some ⟨b, 0, none⟩) sz (l.map f) := by
 obtain ⟨A, c, h1, h2⟩ := at_gM (cap := 0) hW h hsz
 rw [gSl_ne hne] at h1
 cases h1
 exact h2
theorem rdE_rows (l : List Rd) : ((l.map rdE).flatten).length = l.length * 15 := by
 induction l with
 | nil => rfl
 | cons x l ih => rw [List.map_cons, List.flatten_cons, List.length_append, ih]; show 15 + l.length * 15 = (l.length + 1) * 15; omega
end R41
end Go.Proofs

namespace Go.Proofs
open Go.RowKit Go.Kin Go.Kin.Cl
namespace R41
/-- what Codes answers -/
def cosL (x : Wi) : List Int := if chkW [x] = 0 then cds x else []
theorem wiE_3 (x : Wi) : ∀ r ∈ [wiE x], r.length = 3 := fun r hr => by rw [List.mem_singleton.1 hr]; rfl
theorem cosL_ok {x : Wi} (h : chkW [x] = 0) : cosL x = cds x := if_pos h
theorem cosL_no {x : Wi} (h : chkW [x] ≠ 0) : cosL x = [] := if_neg h
end R41
end Go.Proofs

set_option maxRecDepth 100000
set_option maxHeartbeats 400000000
namespace Go.Proofs
open Go.RowKit Go.Kin Go.Kin.Cl
namespace R41
def CosR (x : Wi) (w : World) (e : Ending) (w' : World) : Prop :=
 ∃ A cap, e = .returned (.tuple ⟨[.slice A (cosL x).length cap, .int .i64 (chkW [x])]⟩) /\ Below w.heap.size w w' /\ Fr w w' A 1 ((cosL x).map inE) /\ (cosL x).length <= cap
theorem CodesR_calls (x : Wi) (w : World) (hx : WiOK w x) : Calls Tryz.prog 14 ⟨[.agg ⟨wiE x⟩]⟩ w (CosR x w) := by
 refine fEn Tryz.func14 rfl Tryz.ntmps14 rfl rfl (sWn w) ?_
 repeat (first|refine lVa rfl rfl (by first|exact pEv rfl|exact vLd rfl (by repeat constructor) rfl (by rfl)|fail) ?_|refine lNi ?_|refine cRg ?_|refine cSq ?_|refine xTh ?_|refine r_box rfl rfl rfl rfl (fun _ => ?_)|refine r_buildSlice rfl rfl rfl rfl rfl rfl (by rfl) (fun _ => ?_)|fail)
 rename_i b1 b5
 refine r_call rfl rfl rfl (fun W hW => Check_calls (some ⟨b5, 0, none⟩) 1 [x] W (hW.rows (by repeat constructor) (rest := []) rfl (wiE_3 x)) (fun y hy => by rw [List.mem_singleton.1 hy]; exact hx.later hW.below) (by simp)) ?_
 by_cases hc : chkW [x] = 0
 ·have hl := cosL_ok hc
  have h64 : x.rs.length <= 64 := (chkW_0 hc).2.1 x (List.mem_singleton.2 rfl)
  rw [hc]
  repeat (first|refine lVa rfl rfl (by first|exact pEv rfl|exact vLd rfl (by repeat constructor) rfl (by rfl)|fail) ?_|refine lNi ?_|refine cRg ?_|refine cSq ?_|refine xTh ?_|refine c_false rfl ?_|refine cSk ?_|fail)
  by_cases hn : cds x = []
  ·refine r_call (v := .slice none 0 0) rfl rfl rfl (fun W hW => (codes_calls x W (hx.later hW.below) (by omega)).mono fun e W' ⟨h1, h2⟩ => ?_) ?_
   ·rcases h2 with ⟨-, h3⟩ | ⟨h3, -⟩
    ·exact ⟨h3, h1⟩
    ·exact absurd hn h3
   repeat (first|refine lVa rfl rfl (by first|exact pEv rfl|fail) ?_|refine lNi ?_|refine xTh ?_|refine c_ret ?_|fail)
   exact x_ret rfl rfl (by repeat constructor) rfl (fun W hW => ⟨none, 0, by rw [hl, hn, hc]; rfl, hW.below, by rw [hl, hn]; exact Fr.nil, by rw [hl, hn]; exact Nat.le_refl _⟩)
  ·refine r_call1 (ι := {q : Nat × Nat × List Value // (cds x).length <= q.2.1}) (v := fun q => .slice (some ⟨q.1.1, 0, none⟩) (cds x).length q.1.2.1) (bk := fun q => q.1.1) (o := fun q => .cells ⟨flatI (cds x) ++ q.1.2.2⟩ 3 (0, 0)) rfl rfl rfl (fun W hW => (codes_calls x W (hx.later hW.below) (by omega)).mono fun e W' ⟨h1, h2⟩ => ?_) ?_
   ·rcases h2 with ⟨h3, -⟩ | ⟨-, b, cap, rest, h3, h4, h5, h6⟩
    ·exact absurd h3 hn
    ·exact ⟨⟨(b, cap, rest), h4.le⟩, h3, h1, h5, h6⟩
   rintro ⟨⟨b, cap, rest⟩, hcp⟩
   simp only at hcp ⊢
   repeat (first|refine lVa rfl rfl (by first|exact pEv rfl|fail) ?_|refine lNi ?_|refine xTh ?_|refine c_ret ?_|fail)
   exact x_ret rfl rfl (by repeat constructor) rfl (fun W hW => ⟨some ⟨b, 0, none⟩, cap, by first|(rw [hc, hl]; done)|(rw [hc, hl]; rfl), hW.below, by rw [hl]; exact fr_blk (Nat.le_of_not_lt (hW.own (b, _) (by repeat constructor)).1) (hW.own (b, _) (by repeat constructor)).2, by rw [hl]; exact hcp⟩)
 ·have hl := cosL_no hc
  obtain ⟨z, hz⟩ : ∃ z, chkW [x] = z := ⟨_, rfl⟩
  rw [hz] at hc ⊢
  repeat (first|refine lVa rfl rfl (by first|exact pEv rfl|fail) ?_|refine lNi ?_|refine cRg ?_|refine cSq ?_|refine xTh ?_|refine c_dec_t rfl (by first|omega|fail) ?_|refine c_ret ?_|refine xTr ?_|fail)
  exact x_ret rfl rfl (by repeat constructor) rfl (fun W hW => ⟨none, 0, by rw [hl, hz]; rfl, hW.below, by rw [hl]; exact Fr.nil, by rw [hl]; exact Nat.le_refl _⟩)

end R41
end Go.Proofs

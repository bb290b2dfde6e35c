/- Games on networks: what has been read is a table. Plain Lean. -/
import Derived.Test.YtcodoembnjemkaaSgRd
import Derived.Test.YtcodoembnjemkaaEng40
import Derived.Test.YtcodoembnjemkaaSgE
set_option linter.unusedSectionVars false
set_option linter.unusedVariables false
set_option linter.unusedSimpArgs false
namespace Go.Proofs
open Go.RowKit Go.Kin Go.Kin.St Go.Kin.Ct Go.Kin.Sg
namespace R24
/-- what a strategy does at a tick, where it is known what it knows -/
def rowOf (rows : List DW) (k : Nat) (l : List Int) : Option DW := rows.find? fun r => decide (r.k = (k : Int)) && decide (r.l = l)
def toN (d : List Int) : List Nat := d.map Int.toNat
def tabW (rows : List DW) : Tab := fun k l => (rowOf rows k l).map fun r => toN r.d
theorem rowOf_some {rows : List DW} {k : Nat} {l : List Int} {r : DW} (h : rowOf rows k l = some r) : r ∈ rows ∧ r.k = k ∧ r.l = l := by
  unfold rowOf at h
  have h1 := List.find?_some h
  simp only [Bool.and_eq_true, decide_eq_true_eq] at h1
  exact ⟨List.mem_of_find?_eq_some h, h1.1, h1.2⟩
/-- the map holds the table -/
theorem kvR_get {n : Nat} (hn : n ≤ 6) {l : List Int} (hl : l.length = n) (k : Nat) : ∀ {rows : List DW}, (∀ r ∈ rows, r.l.length = n) → pkGet (kvR rows) k (kn l) = (rowOf rows k l).map fun r => .slice r.D r.d.length r.cd := by
  intro rows hr
  unfold pkGet kvR rowOf
  rw [List.find?_map, Option.map_map]
  have hf : ∀ {rs : List DW}, (∀ r ∈ rs, r.l.length = n) → rs.find? ((fun x : (Int × (Nat → Int)) × Value => decide ((k : Int) = x.1.1) && sameTo (kn l) x.1.2 6) ∘ fun r => ((r.k, kn r.l), Value.slice r.D r.d.length r.cd)) = rs.find? fun r => decide (r.k = (k : Int)) && decide (r.l = l) := by
    intro rs hrs
    induction rs with
    | nil => rfl
    | cons x rs ih =>
      rw [List.find?_cons, List.find?_cons, ih fun r hr => hrs r (List.mem_cons_of_mem _ hr)]
      have hx := hrs x List.mem_cons_self
      have e : ((fun x : (Int × (Nat → Int)) × Value => decide ((k : Int) = x.1.1) && sameTo (kn l) x.1.2 6) ∘ fun r : DW => ((r.k, kn r.l), Value.slice r.D r.d.length r.cd)) x = (decide (x.k = (k : Int)) && decide (x.l = l)) := by
        simp only [Function.comp]
        rw [Bool.eq_iff_iff]
        simp only [Bool.and_eq_true, decide_eq_true_eq]
        rw [kn_same (by rw [hl, hx]) (by omega)]
        constructor
        · rintro ⟨h1, h2⟩; exact ⟨h1.symm, h2.symm⟩
        · rintro ⟨h1, h2⟩; exact ⟨h1.symm, h2.symm⟩
      rw [e]
  rw [hf hr]
  rfl
theorem pv_inc {n : Nat} {d : List Int} (h : okD n d) : ∀ {i : Nat} {x : Int}, d[i]? = some x → 0 ≤ x ∧ x < n ∧ ∀ j y, j < i → d[j]? = some y → y < x
  | 0, x, hx => by
    have := h 0 x hx
    rw [show pv d 0 = -1 from rfl] at this
    exact ⟨by omega, this.2, fun j y hj => absurd hj (Nat.not_lt_zero _)⟩
  | i + 1, x, hx => by
    have h1 := h (i + 1) x hx
    have hlt := (List.getElem?_eq_some_iff.1 hx).1
    have hy : d[i]? = some d[i] := List.getElem?_eq_getElem (by omega)
    have hp : pv d (i + 1) = d[i] := by show d.getD i 0 = _; rw [List.getD_eq_getElem?_getD, hy]; rfl
    obtain ⟨g1, g2, g3⟩ := pv_inc h hy
    rw [hp] at h1
    refine ⟨by omega, h1.2, fun j y hj hy' => ?_⟩
    by_cases hji : j < i
    · have := g3 j y hji hy'; omega
    · have e : j = i := by omega
      subst e
      rw [hy] at hy'; cases hy'; exact h1.1
theorem toN_inc {n : Nat} {d : List Int} (h : okD n d) : (toN d).Pairwise (· < ·) := by
  unfold toN
  rw [List.pairwise_map, List.pairwise_iff_getElem]
  intro i j hi hj hij
  have h1 := pv_inc h (List.getElem?_eq_getElem hi)
  have h2 := pv_inc h (List.getElem?_eq_getElem hj)
  have h3 := h2.2.2 i _ hij (List.getElem?_eq_getElem hi)
  omega
theorem toN_back {n : Nat} {d : List Int} (h : okD n d) : (toN d).map (fun x : Nat => (x : Int)) = d := by
  unfold toN
  rw [List.map_map]
  refine (List.map_congr_left fun x hx => ?_).trans (List.map_id _)
  obtain ⟨i, hi, rfl⟩ := List.mem_iff_getElem.1 hx
  have := (pv_inc h (List.getElem?_eq_getElem hi)).1
  simp only [Function.comp, id]
  omega
theorem tabW_inc {n T : Nat} {rows : List DW} (h : okS n T rows) : Inc (tabW rows) := fun k l S hS => by
  unfold tabW at hS
  obtain ⟨r, hr, rfl⟩ := Option.map_eq_some_iff.1 hS
  obtain ⟨hm, _, _⟩ := rowOf_some hr
  obtain ⟨i, hi, rfl⟩ := List.mem_iff_getElem.1 hm
  exact toN_inc (h i _ (List.getElem?_eq_getElem hi)).o
end R24
end Go.Proofs

set_option linter.unusedSectionVars false
set_option linter.unusedVariables false
set_option linter.unusedSimpArgs false
namespace Go
open Go.RowKit Go.Sort
namespace Kin
section
variable {P : Program} {N : Nat} {c : Cx} {Q : Exit → Act → World → Prop} {env : List (Nat × Value)} {mem : List (Nat × Obj)}
theorem x_weaken {e : Exit} {E : List (Nat × Value)} {M : List (Nat × Obj)} (hE : EnvSub env E) (hM : MSub mem M) (k : RunX N c Q e E M) : RunX N c Q e env mem := .mk fun a W ha hm => k.run a W (hE.sat ha) (hm.mono hM.sub)
/-- what follows a piece of code where it ends normally is shown once, from what little it needs -/
theorem c_share {x : Code} (E : List (Nat × Value)) (M : List (Nat × Obj)) (k : RunX N c Q .normal E M) (h : (∀ {env' : List (Nat × Value)} {mem' : List (Nat × Obj)}, EnvSub env' E → MSub mem' M → RunX N c Q .normal env' mem') → RunC P N c x Q env mem) : RunC P N c x Q env mem :=
  h fun hE hM => x_weaken hE hM k
end
end Kin
end Go

set_option linter.unusedSectionVars false
set_option linter.unusedVariables false
set_option linter.unusedSimpArgs false
namespace Go
open Go.RowKit Go.Sort
namespace Kin
section
variable {P : Program} {N : Nat} {c : Cx} {env : List (Nat × Value)} {mem : List (Nat × Obj)} {tt : List (TypeId × TI)}
  {ty : TypeId} {pos : String} {af : Array Edge} {g : Option (Nat × Bool)} {dd : Option Tmp}
/-- a known map that lies outside, looked up -/
theorem v_pkGetX [T : TT P tt] {t kt ta ti et b sz bt sz2 bt2 : Nat} {m kx : Operand} {k : Int} {f : Nat → Int} {s : List ((Int × (Nat → Int)) × Value)} {z z2 out : Value} {kd : TK} {ok : Bool}
    (hm0 : evOp env m = some (.map (some b))) (hk : evOp env kx = some (.agg ⟨pkC k f⟩)) (ht : look tt t = some ⟨.map kt et, sz, bt, z⟩) (K : PkT P tt kt ta ti) (het : look tt et = some ⟨kd, sz2, bt2, z2⟩)
    (hin : c.w0.heap[b]? = some (pkO s)) (hD : c.D b) (ho : (match pkGet s k f with | some v => (match ok with | true => Value.tuple ⟨[v, .bool true]⟩ | false => v) | none => (match ok with | true => Value.tuple ⟨[z2, .bool false]⟩ | false => z2)) = out) :
    OpVal P N c env mem ⟨dd, .lookup t m kx ok, ty, pos, af, g⟩ out :=
  ⟨rfl, fun a W ha hm => by
    have hb := (hm.same.block b (Array.getElem?_eq_some_iff.1 hin).1 hD).trans hin
    have hmu : P.underlying t = some (.map kt et) := (TT.look (P := P) ht).1
    obtain ⟨_, i, hi, _, _, hz⟩ := TT.look (P := P) het
    have hz2 : (zeroValue et).run P W = .ok z2 W := by
      simp only [zeroValue, Sem.run_bind, run_info hi, Result.andThen_ok, hz]; rfl
    unfold pkO at hb
    have hr := run_findPk K (ents := pkM 0 s) (fun e he => pkM_pk he) k f W
    have hp := pkM_find (k := k) (f := f) s 0 0
    subst ho
    cases hfb : findB (pkB k f) (pkM 0 s) 0 with
    | none =>
      rw [hfb] at hr hp
      rw [← hp]
      cases ok <;>
      · simp only [execOp, ha.eval hm0, ha.eval hk, Instr.lookup, Sem.run_bind, run_und hmu, Result.andThen_ok, MapKept.run_getObj_map hb, run_checkPk K, hr, hz2, Sem.run_pure]
        rfl
    | some p =>
      obtain ⟨j, u⟩ := p
      rw [hfb] at hr hp
      rw [← hp]
      cases ok <;>
      · simp only [execOp, ha.eval hm0, ha.eval hk, Instr.lookup, Sem.run_bind, run_und hmu, Result.andThen_ok, MapKept.run_getObj_map hb, run_checkPk K, hr, Sem.run_pure]
        rfl⟩
theorem x_part {Q : Exit → Act → World → Prop} {e : Exit} {mem' : List (Nat × Obj)} (extra : List (Nat × Obj)) (hp : mem.Perm (extra ++ mem')) (k : RunX N c Q e env mem') : RunX N c Q e env mem := .mk fun a W ha hm => k.run a W ha ((hm.perm hp).mono (List.sublist_append_right _ _))
end
end Kin
end Go

set_option linter.unusedSectionVars false
set_option linter.unusedVariables false
set_option linter.unusedSimpArgs false
namespace Go.Proofs
open Go.RowKit Go.Kin Go.Kin.St Go.Kin.Ct Go.Kin.Sg
namespace R24
def capsW (bT bG bM bF : Nat) : List Value := [.pointer (some ⟨bT, 0, none⟩), .pointer (some ⟨bG, 0, none⟩), .pointer (some ⟨bM, 0, none⟩), .pointer (some ⟨bF, 0, none⟩)]
/-- what a walk of a strategy finds -/
structure WEnv (b : GB) (a bT bG bM bF bm fn : Nat) (rows : List DW) (w : World) : Prop where
  g : GIn b a w
  cT : w.cell? ⟨bT, 0, none⟩ = some (.int .i64 b.T)
  cG : w.cell? ⟨bG, 0, none⟩ = some (.pointer (some ⟨a, 0, none⟩))
  cM : w.cell? ⟨bM, 0, none⟩ = some (.map (some bm))
  cF : w.cell? ⟨bF, 0, none⟩ = some (.func (.func fn) ⟨[]⟩ ⟨capsW bT bG bM bF⟩)
  m : w.heap[bm]? = some (pkO (kvR rows))
  d : ∀ r ∈ rows, At w r.D 1 (r.d.map inE)
theorem WEnv.later {b : GB} {a bT bG bM bF bm fn : Nat} {rows : List DW} {w W : World} (h : WEnv b a bT bG bM bF bm fn rows w) (hb : Below w.heap.size w W) : WEnv b a bT bG bM bF bm fn rows W :=
  ⟨h.g.later hb, (hb.cell (lt_of_cell h.cT)).trans h.cT, (hb.cell (lt_of_cell h.cG)).trans h.cG, (hb.cell (lt_of_cell h.cM)).trans h.cM, (hb.cell (lt_of_cell h.cF)).trans h.cF,
   (hb.block _ (Array.getElem?_eq_some_iff.1 h.m).1).trans h.m, fun r hr => (h.d r hr).later hb⟩
theorem ext1 {w : World} {b : Nat} {v : Value} (h : w.cell? ⟨b, 0, none⟩ = some v) : Ext w (base w) b 0 [v] := ext_of fun j u hj => by
  cases j with
  | zero => cases hj; exact h
  | succ j => cases hj
/-- the set that a table gives, as it lies -/
theorem tab_slice {b : GB} {a bT bG bM bF bm fn : Nat} {rows : List DW} {T : Nat} (hok : okS b.n T rows) (k : Nat) (q : List Int) :
    ∃ A cap, (match (rowOf rows k q).map fun r => Value.slice r.D r.d.length r.cd with | some v => v | none => .slice none 0 0) = .slice A (doD (tabW rows) k q).length cap ∧ (∀ x ∈ doD (tabW rows) k q, x < b.n) ∧ ∀ w, WEnv b a bT bG bM bF bm fn rows w → At w A 1 ((doD (tabW rows) k q).map nE) := by
  unfold doD tabW
  cases hr : rowOf rows k q with
  | none => exact ⟨none, 0, rfl, fun x hx => (by cases hx), fun w _ i r h => by simp at h⟩
  | some r =>
    obtain ⟨hm, _, _⟩ := rowOf_some hr
    obtain ⟨i, hi, hri⟩ := List.mem_iff_getElem.1 hm
    have ho := (hok i r (by rw [List.getElem?_eq_getElem hi, hri])).o
    refine ⟨r.D, r.cd, ?_, fun x hx => ?_, fun w h => ?_⟩
    · simp [toN]
    · simp only [Option.map_some, Option.getD_some, toN] at hx
      obtain ⟨y, hy, rfl⟩ := List.mem_map.1 hx
      obtain ⟨j, hj, rfl⟩ := List.mem_iff_getElem.1 hy
      have := pv_inc ho (List.getElem?_eq_getElem hj)
      omega
    · have h1 := h.d r hm
      have e : (toN r.d).map nE = r.d.map inE := by
        conv => rhs; rw [← toN_back ho]
        rw [List.map_map]; rfl
      simp only [Option.map_some, Option.getD_some]
      rw [e]; exact h1
noncomputable def wnB (b : GB) (rows : List DW) (f k : Nat) (l : List Int) : Bool := @decide (Wn b.g (tabW rows) f k l) (Classical.propDecidable _)
theorem wnB_iff {b : GB} {rows : List DW} {f k : Nat} {l : List Int} : wnB b rows f k l = true ↔ Wn b.g (tabW rows) f k l := @decide_eq_true_iff _ (Classical.propDecidable _)
set_option maxRecDepth 100000 in
set_option maxHeartbeats 200000000 in
theorem wins49_end (b : GB) (a bT bG bM bF bm : Nat) (rows : List DW) (hb : GOK b) (k : Nat) (hk : k = b.T + 1) (l : List Int) (w : World) (hl : PosN b l) (he : WEnv b a bT bG bM bF bm 49 rows w) :
    Calls Try.prog 49 ⟨[] ++ [.agg ⟨plC k (kn l)⟩] ++ capsW bT bG bM bF⟩ w fun e w' => e = .returned (.bool (wnB b rows 0 k l)) ∧ Below w.heap.size w w' := by
  have hT := hb.T
  have eT := ext1 he.cT
  have eG := ext1 he.cG
  have hkp : wnB b rows 0 k l = kpB b.g l := rfl
  rw [hkp]
  refine fun_enter Try.func49 rfl Try.ntmps49 rfl rfl (satW_nil w) ?_
  repeat (first | refine l_val rfl rfl (by first | exact pureEval_ok rfl | exact v_load rfl (by repeat (first | exact List.Mem.head _ | apply List.Mem.tail)) rfl (by rfl) | exact v_load_ext0 rfl (by assumption) rfl (by rfl)  | fail) ?_ | refine l_nil ?_ | refine c_region ?_ | refine c_seq ?_ | refine x_then ?_ | refine r_box rfl rfl rfl rfl (fun _ => ?_) | refine r_alloc rfl rfl rfl (by first | exact aggL  | fail) (fun _ => ?_) | refine c_dec_t rfl (by first | omega  | fail) ?_  | fail)
  refine r_call rfl rfl rfl (fun W hW => kept_calls b a k l W hb.n hl.1 (fun x hx => by have := hl.2 x hx; omega) hb.l hb.ck (he.later hW.below).g) ?_
  repeat (first | refine l_nil ?_ | refine x_then ?_ | refine r_store rfl rfl rfl rfl rfl rfl rfl (by repeat (first | exact Upd.head | apply Upd.tail)) (by rfl) ?_ | refine c_ret ?_ | refine x_then_ret ?_  | fail)
  exact x_ret rfl rfl (by repeat (first | exact Res.nil | (apply Res.tmp; rfl) | (apply Res.cell; rfl; exact (by repeat (first | exact List.Mem.head _ | apply List.Mem.tail)); rfl; rfl))) rfl (fun W hW => ⟨rfl, hW.below⟩)
end R24
end Go.Proofs

set_option linter.unusedSectionVars false
set_option linter.unusedVariables false
set_option linter.unusedSimpArgs false
namespace Go.Proofs
open Go.RowKit Go.Kin Go.Kin.St Go.Kin.Ct Go.Kin.Sg
namespace R24
set_option maxRecDepth 100000 in
set_option maxHeartbeats 80000000 in
theorem wait31_calls (b : GB) (a bG bP bU bW k : Nat) (f : Nat → Int) (A : Option Addr) (cw : Nat) (wt : List Int) (x i : Nat) (y : Lk) (v : Int) (w : World) (hx6 : x < 6) (hk : k ≤ 1000) (hf : ∀ q, 0 ≤ f q ∧ f q ≤ 1000) (hiv : iv b.C x = i + 1) (hy : b.C[i]? = some y) (hfr : 0 ≤ y.fr ∧ y.fr < 6) (hc : b.C.length ≤ 1000)
    (hv : wt[i]? = some v) (hl : wt.length ≤ 1000) (hg : GIn b a w) (cG : w.cell? ⟨bG, 0, none⟩ = some (.pointer (some ⟨a, 0, none⟩))) (cP : ∀ j u, (plC k f)[j]? = some u → w.cell? ⟨bP, j, none⟩ = some u) (cU : w.cell? ⟨bU, 2, none⟩ = some (.slice b.B b.C.length b.cb)) (cW : w.cell? ⟨bW, 0, none⟩ = some (.slice A wt.length cw)) (hA : At w A 1 (wt.map inE)) :
    Calls Try.prog 31 ⟨[] ++ [.int .i64 x] ++ [.pointer (some ⟨bG, 0, none⟩), .pointer (some ⟨bP, 0, none⟩), .pointer (some ⟨bU, 0, none⟩), .pointer (some ⟨bW, 0, none⟩)]⟩ w fun e w' => e = .returned (.bool (decide ((k : Int) + 1 - f y.fr.toNat ≠ v))) ∧ Below w.heap.size w w' := by
  have eG := ext1 cG
  have eW := ext1 cW
  have eU : Ext w (base w) bU 2 [.slice b.B b.C.length b.cb] := ext_of fun j u hj => by
    cases j with
    | zero => cases hj; exact cU
    | succ j => cases hj
  have eP : Ext w (base w) bP 0 (plC k f) := ext_of fun j u hj => by rw [Nat.zero_add]; exact cP j u hj
  have eI : Ext w (base w) a (0 + 4 + x) [.int .i64 (i + 1)] := by
    have := hg.ext.at (cells_iv (b := b) hx6)
    rw [hiv, show 0 + (4 + x) = 0 + 4 + x by omega] at this
    exact this
  obtain ⟨bB, oB, hBe, hcB⟩ := hg.c i (lkE y) (by rw [List.getElem?_map, hy]; rfl)
  have eB := ext_of hcB
  have hil := (List.getElem?_eq_some_iff.1 hy).1
  have hiw := (List.getElem?_eq_some_iff.1 hv).1
  have ei : ((i : Int) + 1 - 1).toNat = i := by omega
  rw [← ei] at eB
  have eF : Ext w (base w) bP (0 + 1 + y.fr.toNat) [.int .i64 (f y.fr.toNat)] := by
    have := eP.at (plC_get (k := k) (f := f) (q := y.fr.toNat) (by omega))
    rw [show 0 + (1 + y.fr.toNat) = 0 + 1 + y.fr.toNat by omega] at this
    exact this
  have hfy := hf y.fr.toNat
  obtain ⟨bA, oA, hAe, hcA⟩ := hA i (inE v) (by rw [List.getElem?_map, hv]; rfl)
  have eA := ext_of hcA
  rw [Nat.mul_one, ← ei] at eA
  rw [hBe] at eU
  rw [hAe] at eW
  refine fun_enter Try.func31 rfl Try.ntmps31 rfl rfl (satW_nil w) ?_
  repeat (first | refine l_val rfl rfl (by first | exact v_sub rfl rfl (by omega) (by omega) | exact pureEval_ok rfl | exact v_load_ext0 rfl (by assumption) rfl (by rfl) | exact v_indexA rfl rfl rfl rfl (by omega) (by omega) (by with_reducible first | exact idx2 _ _   | fail)  | fail) ?_ | refine l_nil ?_ | refine c_region ?_ | refine c_seq ?_ | refine x_then ?_ | refine c_ret ?_ | refine c_reads rfl (by decide +kernel) ?_ | refine q_val rfl rfl (by first | exact v_add rfl rfl (by omega) (by omega) | exact v_sub rfl rfl (by omega) (by omega) | exact pureEval_ok rfl | exact v_load_ext0 rfl (by assumption) rfl (by rfl) | exact v_index rfl rfl rfl rfl (by omega) (by omega) (by with_reducible first | exact idx6 _ _  | exact idx8 _ _ _   | fail) | exact v_indexA rfl rfl rfl rfl (by omega) (by omega) (by with_reducible first | exact idx6 _ _   | fail)  | fail) ?_ | refine q_nil ?_  | fail)
  exact x_ret rfl rfl (by repeat (first | exact Res.nil | (apply Res.tmp; rfl) | (apply Res.cell; rfl; exact (by repeat (first | exact List.Mem.head _ | apply List.Mem.tail)); rfl; rfl))) rfl (fun W hW => ⟨rfl, hW.below⟩)
end R24
end Go.Proofs

set_option linter.unusedSectionVars false
set_option linter.unusedVariables false
set_option linter.unusedSimpArgs false
namespace Go.Proofs
open Go.RowKit Go.Kin Go.Kin.St Go.Kin.Ct Go.Kin.Sg
namespace R24
set_option maxRecDepth 100000 in
set_option maxHeartbeats 40000000 in
theorem same15_calls (A B : Option Addr) (ca cb : Nat) (l m : List Int) (w : World) (hA : Kin.At w A 1 (l.map inE)) (hB : Kin.At w B 1 (m.map inE)) (hl : l.length ≤ 9223372036854775806) :
    Calls Try.prog 15 ⟨[.slice A l.length ca, .slice B m.length cb]⟩ w fun e w' => e = .returned (.bool (decide (l = m))) ∧ Below w.heap.size w w' := by
  refine fun_enter Try.func15 rfl Try.ntmps15 rfl rfl (satW_nil w) ?_
  by_cases hlm : l.length = m.length
  rotate_left
  · rw [decide_eq_false fun h => hlm (by rw [h])]
    have hne : (l.length : Int) ≠ m.length := by omega
    repeat (first | refine l_val rfl rfl (by first | exact pureEval_ok rfl  | fail) ?_ | refine l_nil ?_ | refine c_region ?_ | refine c_seq ?_ | refine x_then ?_ | refine c_dec_t rfl (by first | omega  | fail) ?_ | refine c_ret ?_ | refine x_then_ret ?_  | fail)
    exact x_ret rfl rfl (by repeat (first | exact Res.nil | (apply Res.tmp; rfl) | (apply Res.cell; rfl; exact (by repeat (first | exact List.Mem.head _ | apply List.Mem.tail)); rfl; rfl))) rfl (fun W hW => ⟨rfl, hW.below⟩)
  repeat ((fail_if_success refine c_probe (id := 4) ?_); (fail_if_success refine c_probe1 (id := 4) ?_); first | refine l_val rfl rfl (by first | exact pureEval_ok rfl  | fail) ?_ | refine l_nil ?_ | refine c_region ?_ | refine c_seq ?_ | refine x_then ?_ | refine c_dec_f rfl (by first | omega | exact fun h => h rfl  | fail) ?_ | refine c_block ?_ | refine c_skip ?_  | fail)
  refine c_loop (ι := Nat) (fun k => k ≤ l.length ∧ ∀ i, i < k → l[i]? = m[i]?) (fun k => [(0, .slice A l.length ca), (1, .slice B m.length cb), (5, .int .i64 k)]) (fun _ => []) (fun k => l.length - k) 0 ⟨Nat.zero_le _, fun i hi => absurd hi (Nat.not_lt_zero _)⟩ (by repeat (first | exact EnvSub.nil | refine EnvSub.cons rfl (by first | rfl | (congr 1; done) | (exact congrArg (Value.int _) (by omega)) | (simp; done)) ?_)) (by repeat (first | exact MSub.nil | refine MSub.keep (by first | rfl | assumption) ?_ | refine MSub.drop ?_ | exact MSub.refl _)) ?_
  rintro k ⟨hk, hE⟩
  by_cases hlt : k < l.length
  · obtain ⟨x, hx⟩ : ∃ x, l[k]? = some x := ⟨_, List.getElem?_eq_getElem hlt⟩
    obtain ⟨y, hy⟩ : ∃ y, m[k]? = some y := ⟨_, List.getElem?_eq_getElem (by omega)⟩
    obtain ⟨b1, o1, rfl, h1⟩ := hA k (inE x) (by simp [hx])
    obtain ⟨b2, o2, rfl, h2⟩ := hB k (inE y) (by simp [hy])
    have e1 := ext_of h1
    have e2 := ext_of h2
    rw [Nat.mul_one] at e1 e2
    by_cases hxy : x = y
    · repeat (first | refine l_val rfl rfl (by first | exact v_add rfl rfl (by omega) (by omega) | exact pureEval_ok rfl  | fail) ?_ | refine l_nil ?_ | refine c_region ?_ | refine c_seq ?_ | refine x_then ?_ | refine c_dec_t rfl (by first | omega  | fail) ?_ | refine c_dec_f rfl (by first | omega | exact fun h => h rfl  | fail) ?_ | refine c_block ?_ | refine c_skip ?_ | refine x_block ?_ | refine c_reads rfl (by decide +kernel) ?_ | refine q_val rfl rfl (by first | exact pureEval_ok rfl | exact v_load_ext0 rfl (by assumption) rfl (by rfl) | exact v_index rfl rfl rfl rfl (by omega) (by omega) (by with_reducible first | exact idx2 _ _   | fail)  | fail) ?_ | refine q_nil ?_  | fail)
      refine x_back (k + 1) ⟨hlt, fun i hi => ?_⟩ (by omega) (by repeat (first | exact EnvSub.nil | refine EnvSub.cons rfl (by first | rfl | (congr 1; done) | (exact congrArg (Value.int _) (by omega)) | (simp; done)) ?_)) (by repeat (first | exact MSub.nil | refine MSub.keep (by first | rfl | assumption) ?_ | refine MSub.drop ?_ | exact MSub.refl _))
      by_cases hik : i < k
      · exact hE i hik
      · have e : i = k := by omega
        subst e; rw [hx, hy, hxy]
    · rw [decide_eq_false fun h => hxy (by rw [h, hy] at hx; exact (Option.some.inj hx).symm)]
      repeat (first | refine l_val rfl rfl (by first | exact pureEval_ok rfl  | fail) ?_ | refine l_nil ?_ | refine c_region ?_ | refine c_seq ?_ | refine x_then ?_ | refine c_dec_t rfl (by first | omega  | fail) ?_ | refine c_block ?_ | refine c_skip ?_ | refine c_ret ?_ | refine x_then_ret ?_ | refine x_block_ret ?_ | refine c_reads rfl (by decide +kernel) ?_ | refine q_val rfl rfl (by first | exact pureEval_ok rfl | exact v_load_ext0 rfl (by assumption) rfl (by rfl) | exact v_index rfl rfl rfl rfl (by omega) (by omega) (by with_reducible first | exact idx2 _ _   | fail)  | fail) ?_ | refine q_nil ?_  | fail)
      exact x_ret rfl rfl (by repeat (first | exact Res.nil | (apply Res.tmp; rfl) | (apply Res.cell; rfl; exact (by repeat (first | exact List.Mem.head _ | apply List.Mem.tail)); rfl; rfl))) rfl (fun W hW => ⟨rfl, hW.below⟩)
  · have hkl : k = l.length := by omega
    subst hkl
    have he : l = m := List.ext_getElem? fun i => by
      by_cases hi : i < l.length
      · exact hE i hi
      · rw [List.getElem?_eq_none (by omega), List.getElem?_eq_none (by omega)]
    rw [decide_eq_true he]
    repeat (first | refine l_val rfl rfl (by first | exact pureEval_ok rfl  | fail) ?_ | refine l_nil ?_ | refine c_region ?_ | refine c_seq ?_ | refine x_then ?_ | refine c_dec_f rfl (by first | omega  | fail) ?_ | refine c_ret ?_ | refine c_exit ?_ | refine x_then_exit ?_ | refine x_block_same ?_  | fail)
    exact x_ret rfl rfl (by repeat (first | exact Res.nil | (apply Res.tmp; rfl) | (apply Res.cell; rfl; exact (by repeat (first | exact List.Mem.head _ | apply List.Mem.tail)); rfl; rfl))) rfl (fun W hW => ⟨rfl, hW.below⟩)
set_option maxRecDepth 100000 in
set_option maxHeartbeats 40000000 in
theorem lacks34_calls (v : Int) (bx : Nat) (T : Option Addr) (cap : Nat) (t : List Int) (w : World) (hB : w.cell? ⟨bx, 0, none⟩ = some (.slice T t.length cap)) (hT : Kin.At w T 1 (t.map inE)) (hl : t.length ≤ 9223372036854775807) :
    Calls Try.prog 34 ⟨[] ++ [.int .i64 v] ++ [.pointer (some ⟨bx, 0, none⟩)]⟩ w fun e w' => e = .returned (.bool (!t.contains v)) ∧ Below w.heap.size w w' := by
  have hE : Ext w (base w) bx 0 [.slice T t.length cap] := ext_of fun j v hj => by
    cases j with
    | zero => cases hj; exact hB
    | succ j => cases hj
  refine fun_enter Try.func34 rfl Try.ntmps34 rfl rfl (satW_nil w) ?_
  repeat (first | refine l_val rfl rfl (by first | exact pureEval_ok rfl | exact v_load_ext0 rfl (by assumption) rfl (by rfl)  | fail) ?_ | refine l_nil ?_ | refine c_region ?_ | refine c_seq ?_ | refine x_then ?_  | fail)
  refine r_call rfl rfl rfl (fun W hW => contains_calls v T cap t W (hT.sat hW) hl) ?_
  repeat (first | refine l_val rfl rfl (by first | exact pureEval_ok rfl  | fail) ?_ | refine l_nil ?_ | refine x_then ?_ | refine c_ret ?_  | fail)
  exact x_ret rfl rfl (by repeat (first | exact Res.nil | (apply Res.tmp; rfl) | (apply Res.cell; rfl; exact (by repeat (first | exact List.Mem.head _ | apply List.Mem.tail)); rfl; rfl))) rfl (fun W hW => ⟨rfl, hW.below⟩)
end R24
end Go.Proofs

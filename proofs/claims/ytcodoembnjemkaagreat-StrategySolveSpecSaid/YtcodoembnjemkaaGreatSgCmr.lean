/- Lists compared: what is compared is told to the world. -/
import Derived.Test.YtcodoembnjemkaaGreatSgCmp
import Derived.Test.YtcodoembnjemkaaGreatSgL
import Derived.Sort.Grow
set_option maxRecDepth 100000
set_option maxHeartbeats 400000000
set_option linter.unusedSectionVars false
set_option linter.unusedVariables false
set_option linter.unusedSimpArgs false
namespace Go.Proofs
open Go.RowKit Go.Kin Go.Kin.St Go.Kin.Ct Go.Kin.Sg
namespace R24
theorem cmp90_any (ba oa ca bb ob cb : Nat) (a b : List Int) (w : World) (hl : a.length = b.length) (hn : a.length <= 1000) (ha : ∀ k x, a[k]? = some x -> w.cell? ⟨ba, oa + k, none⟩ = some (.int .i64 x)) (hb : ∀ k x, b[k]? = some x -> w.cell? ⟨bb, ob + k, none⟩ = some (.int .i64 x)) :
  Calls Tryz.prog 81 #[.slice (some ⟨ba, oa, none⟩) a.length ca, .slice (some ⟨bb, ob, none⟩) b.length cb] w fun e w' => e = .returned (.int .i64 (cmpL a b)) /\ w' = w := by
 have HA := Lib.hid ha; clear ha
 have HB := Lib.hid hb; clear hb
 obtain ⟨n, hn2⟩ : ∃ n, a.length = n := ⟨_, rfl⟩
 have hbn : b.length = n := by omega
 have HL := Lib.hid hn2
 have HM := Lib.hid hbn
 rw [hn2] at hn
 rw [hn2, hbn]
 clear hl hn2 hbn
 go_enter Tryz.func81, Tryz.ntmps81
 go_wp2
 go_loop [11] (fun i => ∃ k : Nat, k <= n /\ i = .int .i64 k /\ Hid (∀ j, j < k -> a[j]? = b[j]?)) (fun i => n - (intOf i).toNat)
 case atStart => exact ⟨0, Nat.zero_le _, rfl, Lib.hid (fun j hj => by omega)⟩
 case round =>
  obtain ⟨k, hk, rfl, HE⟩ := hrel
  by_cases hlt : k < n
  ·obtain ⟨x, hx⟩ : ∃ x, a[k]? = some x := ⟨_, List.getElem?_eq_getElem (by rw [HL.out]; exact hlt)⟩
   obtain ⟨y, hy⟩ : ∃ y, b[k]? = some y := ⟨_, List.getElem?_eq_getElem (by rw [HM.out]; exact hlt)⟩
   have hca : w.cell? ⟨ba, oa + k, none⟩ = some (.int .i64 x) := HA.out k x hx
   have hcb : w.cell? ⟨bb, ob + k, none⟩ = some (.int .i64 y) := HB.out k y hy
   have hxy := Lib.hid hx; have hyy := Lib.hid hy
   clear hx hy
   by_cases hne : x = y
   ·have H0 : Hid (cmpI x y = 0) := Lib.hid (by unfold cmpI; rw [if_neg (by omega), if_neg (by omega)])
    have hne' := Lib.hid hne
    clear hne
    go_wp2_with (go_at_call 80; refine (cmp89_any _ _ _).mono ?_; rintro e w' ⟨rfl, rfl⟩; rw [H0.out])
    go_round
    case rel =>
     refine ⟨k + 1, by omega, by go_num, Lib.hid (fun j hj => ?_)⟩
     by_cases hjk : j = k
     ·subst hjk; rw [hxy.out, hyy.out, hne'.out]
     ·exact HE.out j (by omega)
    case measure => simp [intOf]; omega
   ·have H0 : Hid (cmpI x y ≠ 0) := Lib.hid (by unfold cmpI; split; omega; split <;> omega)
    have H1 : Hid (cmpL a b = cmpI x y) := Lib.hid (cmpL_at HE.out hxy.out hyy.out hne)
    obtain ⟨r, hr⟩ : ∃ r, cmpI x y = r := ⟨_, rfl⟩
    have hr' := Lib.hid hr
    have h0' : r ≠ 0 := by rw [<- hr]; exact H0.out
    clear hne hr
    go_wp2_with (go_at_call 80; refine (cmp89_any _ _ _).mono ?_; rintro e w' ⟨rfl, rfl⟩; rw [hr'.out])
    go_ret
    exact ⟨by rw [H1.out, hr'.out]; rfl, rfl⟩
  ·have hkn : k = n := by omega
   subst hkn
   have HS : Hid (cmpL a b = 0) := Lib.hid (by
    have : a = b := List.ext_getElem? fun j => by
     by_cases hj : j < k
     ·exact HE.out j hj
     ·rw [List.getElem?_eq_none (by rw [HL.out]; omega), List.getElem?_eq_none (by rw [HM.out]; omega)]
    rw [this]; exact cmpL_same b)
   go_wp2
   go_ret
   exact ⟨by rw [HS.out]; rfl, rfl⟩
/-- the first that is not 0 -/
def or2 (x y : Int) : Int := if x ≠ 0 then x else y
theorem or88_any (b : Nat) (x y : Int) (w : World) (h0 : w.cell? ⟨b, 0, none⟩ = some (.int .i64 x)) (h1 : w.cell? ⟨b, 1, none⟩ = some (.int .i64 y)) :
  Calls Tryz.prog 79 #[.slice (some ⟨b, 0, none⟩) 2 2] w fun e w' => e = .returned (.int .i64 (or2 x y)) /\ w' = w := by
 have H0 := Lib.hid h0
 have H1 := Lib.hid h1
 clear h0 h1
 go_enter Tryz.func79, Tryz.ntmps79
 go_wp2
 go_loop [8] (fun i => (i = .int .i64 0) ∨ (i = .int .i64 1 /\ Hid (x = 0)) ∨ (i = .int .i64 2 /\ Hid (x = 0 /\ y = 0))) (fun i => 2 - (intOf i).toNat)
 case atStart => exact .inl rfl
 case round =>
  rcases hrel with rfl | ⟨rfl, HX⟩ | ⟨rfl, HX⟩
  ·have hc := H0.out
   by_cases hx : x = 0
   ·have hx' := Lib.hid hx
    clear hx
    rw [hx'.out] at hc
    go_wp2
    go_round
    case rel => exact .inr (.inl ⟨rfl, hx'⟩)
    case measure => simp [intOf]
   ·have e : Hid (or2 x y = x) := Lib.hid (if_pos hx)
    go_wp2
    go_ret
    exact ⟨by rw [e.out]; rfl, rfl⟩
  ·have hc := H1.out
   by_cases hy : y = 0
   ·have hy' := Lib.hid hy
    clear hy
    rw [hy'.out] at hc
    go_wp2
    go_round
    case rel => exact .inr (.inr ⟨rfl, Lib.hid ⟨HX.out, hy'.out⟩⟩)
    case measure => simp [intOf]
   ·have e : Hid (or2 x y = y) := Lib.hid (if_neg (by rw [HX.out]; simp))
    go_wp2
    go_ret
    exact ⟨by rw [e.out]; rfl, rfl⟩
  ·have e : Hid (or2 x y = 0) := Lib.hid (by rw [HX.out.1, HX.out.2]; rfl)
   go_wp2
   go_ret
   exact ⟨by rw [e.out]; rfl, rfl⟩
end R24
end Go.Proofs

namespace Go
open Go.RowKit Go.Sort
namespace Kin
section
variable {P : Program} {N : Nat} {Q : Exit -> Act -> World -> Prop} {env : List (Nat × Value)} {L l : List Oper} {W : World}
/-- the world is W -/
structure RunC1 (P : Program) (N : Nat) (code : Code) (Q : Exit -> Act -> World -> Prop) (env : List (Nat × Value)) (W : World) : Prop where
 run : ∀ a, SatA N [] env a -> code.wpIn Fence.wide 0 P Q a W
structure RunL1 (P : Program) (N : Nat) (L l : List Oper) (Q : Exit -> Act -> World -> Prop) (env : List (Nat × Value)) (W : World) : Prop where
 run : ∀ a, SatA N [] env a -> wpListIn Fence.wide 0 P L.toArray Q l a W
structure RunX1 (N : Nat) (Q : Exit -> Act -> World -> Prop) (e : Exit) (env : List (Nat × Value)) (W : World) : Prop where
 run : ∀ a, SatA N [] env a -> Q e a W
/-- a world's context: all but some blocks -/
abbrev cx1 (W : World) (ks : List Nat) : Cx := ⟨Fence.wide, 0, [], W, allBut W ks, noJ⟩
theorem c1_seq {x y : Code} (k : RunC1 P N x (Exit.then (y.wpIn Fence.wide 0 P Q) Q) env W) : RunC1 P N (.seq x y) Q env W := .mk fun a ha => wpIn_seq (k.run a ha)
theorem c1_region {id : Nat} (k : RunL1 P N l l Q env W) : RunC1 P N (.region id l.toArray false) Q env W := .mk fun a ha => wpIn_region_lit (k.run a ha)
theorem c1_ret (k : RunX1 N Q .ret env W) : RunC1 P N .ret Q env W := .mk fun a ha => wpIn_ret (k.run a ha)
theorem x1_then {y : Code} {Q' : Exit -> Act -> World -> Prop} (k : RunC1 P N y Q env W) : RunX1 N (Exit.then (y.wpIn Fence.wide 0 P Q) Q') .normal env W := .mk fun a ha => k.run a ha
theorem l1_nil (k : RunX1 N Q .normal env W) : RunL1 P N L [] Q env W := .mk fun a ha => wpListIn_nil (k.run a ha)
theorem l1_run {o : Oper} (hw : wantB L env o.guard = some true)
  (h : ∀ a, SatA N [] env a -> o.uponIn Fence.wide 0 P a (wpListIn Fence.wide 0 P L.toArray Q l) Q ((o.semAt Fence.wide.round a.eval).run P W)) : RunL1 P N L (o :: l) Q env W := .mk fun a ha => by
 show if _ then _ else _
 rw [if_pos (wanted_of hw ha)]
 exact ⟨fun f _ => Wide.fn Fence.wide f, h a ha⟩
theorem l1_val {op : Op} {d : Nat} {ty : TypeId} {pos : String} {af : Array Edge} {g : Option (Nat × Bool)} {v : Value} (ks : List Nat) {mem : List (Nat × Obj)} (hs : SatW W (allBut W ks) noJ mem W) (hw : wantB L env g = some true) (hd : Nat.blt d N = true)
  (hv : OpVal P N (cx1 W ks) env mem ⟨some d, op, ty, pos, af, g⟩ v) (k : RunL1 P N L l Q ((d, v) :: env) W) : RunL1 P N L (⟨some d, op, ty, pos, af, g⟩ :: l) Q env W :=
 l1_run hw fun a ha => by
  rw [semAt_plain _ hv.1, hv.2 a W ha hs]
  exact k.run _ (ha.put hd v)
theorem l1_new {op : Op} {d : Nat} {ty : TypeId} {pos : String} {af : Array Edge} {g : Option (Nat × Bool)} {V : Nat -> Value} {ob : Obj} {c : Cx} (hc : c.ds = []) (hw : wantB L env g = some true) (hd : Nat.blt d N = true) (hv : OpNew P N c env ⟨some d, op, ty, pos, af, g⟩ V ob)
  (k : RunL1 P N L l Q ((d, V W.heap.size) :: env) (W.alloc ob)) : RunL1 P N L (⟨some d, op, ty, pos, af, g⟩ :: l) Q env W :=
 l1_run hw fun a ha => by
  rw [semAt_plain _ hv.1, hv.2 a W (by rw [hc]; exact ha)]
  exact k.run _ (ha.put hd _)
theorem fun_enter1 {f : FuncId} {fn : Func} {body : Code} {args : List Value} {R : Ending -> World -> Prop} (hf : P.funcs[f]? = some fn) (hb : fn.body = some body) (hN : fn.ntmps = N)
  (hl : Nat.ble args.length N = true) (he : enumK 0 args some = some env) (k : RunC1 P N body (bodyPostK P fn R) env W) : Calls P f ⟨args⟩ W R := by
 subst hN
 refine calls_of_wpK hf hb (wpIn_wide (n := 0).1 (k.run _ ?_))
 obtain ⟨e, h1, h2⟩ := enumK_eq he
 simp only [Option.some.injEq] at h1
 subst h1
 have hl2 := Nat.le_of_ble_eq_true hl
 refine ⟨?_, rfl, fun s v hs => ?_⟩
 ·simp only [Array.size_append, Array.size_replicate, List.size_toArray]; omega
 ·obtain ⟨_, h3⟩ := h2 s v hs
  simp only [Nat.sub_zero] at h3
  have hlt := (List.getElem?_eq_some_iff.1 h3).1
  rw [Array.getElem?_append_left (by simpa using hlt)]
  simpa using h3
theorem x1_ret {tt : List (TypeId × TI)} [T : TT P tt] {fn : Func} {rs : List ResultVar} {vs : List Value} {v : Value} {R : Ending -> World -> Prop} (ks : List Nat) {mem : List (Nat × Obj)} (hs : SatW W (allBut W ks) noJ mem W) (hr : fn.results = ⟨rs⟩) (h : Res tt env mem rs vs) (hv : tupO vs = some v)
  (hR : R (.returned v) W) : RunX1 N (bodyPostK P fn R) .ret env W := .mk fun a ha => by
 obtain rfl := tupO_eq hv
 exact bodyPostK_ret0 ha.defers (results_run hr h ha hs) hR
/-! ## A region that draws its order: what only reads, and then the rest in order -/
/-- what only reads, whatever has been drawn -/
structure RunH1 (P : Program) (N : Nat) (W : World) (L : List Oper) (n : Nat) (l : List Oper) (Q : Exit -> Act -> World -> Prop) (env : List (Nat × Value)) : Prop where
 run : ∀ a, SatA N [] env a -> wpQuiet P L.toArray (fun X => ∃ q, X = W.drewN q) (fun a' => ∀ X, (∃ q, X = W.drewN q) -> wpAnyIn Fence.wide 0 P .any L.toArray Q (L.length - n) (tailArr L.length n) a' X) l a
structure RunA1 (P : Program) (N : Nat) (W : World) (L : List Oper) (Q : Exit -> Act -> World -> Prop) (f : Nat) (listed : Array Bool) (env : List (Nat × Value)) : Prop where
 run : ∀ a, SatA N [] env a -> wpAnyIn Fence.wide 0 P .any L.toArray Q f listed a W
theorem drewN_drew (W : World) : { W with drawn := W.drawn + 1 } = W.drewN 1 := rfl
theorem satW_drewN {ks : List Nat} {mem : List (Nat × Obj)} (h : SatW W (allBut W ks) noJ mem W) (q : Nat) : SatW W (allBut W ks) noJ mem (W.drewN q) :=
 ⟨Same.drewN _ _ _, h.dom, h.nodup, fun p hp => h.own p hp, h.closed, trivial⟩
theorem h1_val {n : Nat} {op : Op} {d : Nat} {ty : TypeId} {pos : String} {af : Array Edge} {g : Option (Nat × Bool)} {v : Value} {ks : List Nat} {mem : List (Nat × Obj)} (hs : SatW W (allBut W ks) noJ mem W) (hw : wantB L env g = some true) (hd : Nat.blt d N = true)
  (hv : OpVal P N (cx1 W ks) env mem ⟨some d, op, ty, pos, af, g⟩ v) (k : RunH1 P N W L n l Q ((d, v) :: env)) : RunH1 P N W L n (⟨some d, op, ty, pos, af, g⟩ :: l) Q env := .mk fun a ha => by
 show if _ then _ else _
 rw [if_pos (wanted_of (o := ⟨some d, op, ty, pos, af, g⟩) hw ha)]
 refine ⟨v, ?_, k.run _ (ha.put hd v)⟩
 rintro X ⟨q, rfl⟩
 unfold Oper.quietAt
 rw [hv.2 a _ ha (satW_drewN hs q)]
 exact ⟨rfl, rfl⟩
theorem h1_call {n : Nat} {f : FuncId} [Ent P f] {d : Nat} {args : List Operand} {ats : Array TypeId} {vs : List Value} {ty : TypeId} {pos : String} {af : Array Edge} {g : Option (Nat × Bool)} {v : Value} (hw : wantB L env g = some true) (hd : Nat.blt d N = true) (ha : evOps env args some = some vs)
  (hc : ∀ q, Calls P f ⟨vs⟩ (W.drewN q) fun e W' => e = .returned v /\ W' = W.drewN q) (k : RunH1 P N W L n l Q ((d, v) :: env)) : RunH1 P N W L n (⟨some d, .call ⟨.value (.func f), ⟨args⟩, ats⟩, ty, pos, af, g⟩ :: l) Q env := .mk fun a hA => by
 show if _ then _ else _
 rw [if_pos (wanted_of (o := ⟨some d, .call ⟨.value (.func f), ⟨args⟩, ats⟩, ty, pos, af, g⟩) hw hA)]
 have h1 := hA.evals ha
 simp only [Option.some.injEq] at h1
 refine ⟨v, ?_, k.run _ (hA.put hd v)⟩
 rintro X ⟨q, rfl⟩
 unfold Oper.quietAt
 rw [p_call, h1]
 exact ⟨rfl, (hc q).mono fun _ W' ⟨h2, h3⟩ => ⟨h2, q, h3⟩⟩
theorem h1_nil {n : Nat} (k : ∀ q, RunA1 P N (W.drewN q) L Q (L.length - n) (tailArr L.length n) env) : RunH1 P N W L n [] Q env := .mk fun a ha => wpQuiet_nil fun X hX => by
 obtain ⟨q, rfl⟩ := hX
 exact (k q).run a ha
theorem a1_done {f : Nat} {listed : Array Bool} (hr : Region.ready .any L.toArray listed = []) (k : RunX1 N Q .normal env W) : RunA1 P N W L Q f listed env := .mk fun a ha => wpAnyIn_done hr (k.run a ha) f
theorem a1_one {f i : Nat} {listed : Array Bool} (hr : Region.ready .any L.toArray listed = [i]) (k : ∀ a, SatA N [] env a -> wpOpIn Fence.wide 0 P L.toArray Q i (wpAnyIn Fence.wide 0 P .any L.toArray Q f (listed.setIfInBounds i true)) a W) : RunA1 P N W L Q (f + 1) listed env :=
 .mk fun a ha => wpAnyIn_all hr (by simp) fun j hj => by rw [List.mem_singleton.1 hj]; exact k a ha
theorem o1_new {f i : Nat} {listed listed' : Array Bool} {op : Op} {d : Nat} {ty : TypeId} {pos : String} {af : Array Edge} {g : Option (Nat × Bool)} {V : Nat -> Value} {ob : Obj} {c : Cx} (hc : c.ds = []) (hi : nth L i = some ⟨some d, op, ty, pos, af, g⟩) (hw : wantB L env g = some true) (hl : listed.setIfInBounds i true = listed') (hd : Nat.blt d N = true)
  (hv : OpNew P N c env ⟨some d, op, ty, pos, af, g⟩ V ob) (k : RunA1 P N (W.alloc ob) L Q f listed' ((d, V W.heap.size) :: env)) : ∀ a, SatA N [] env a -> wpOpIn Fence.wide 0 P L.toArray Q i (wpAnyIn Fence.wide 0 P .any L.toArray Q f (listed.setIfInBounds i true)) a W := fun a ha => by
 subst hl
 unfold wpOpIn
 rw [nth_eq] at hi
 simp only [List.getElem?_toArray, hi, wanted_of (o := ⟨some d, op, ty, pos, af, g⟩) hw ha, if_true]
 refine ⟨fun f _ => Wide.fn Fence.wide f, ?_⟩
 rw [semAt_plain _ hv.1, hv.2 a W (by rw [hc]; exact ha)]
 exact k.run _ (ha.put hd _)
theorem o1_val {f i : Nat} {listed listed' : Array Bool} {op : Op} {d : Nat} {ty : TypeId} {pos : String} {af : Array Edge} {g : Option (Nat × Bool)} {v : Value} {ks : List Nat} {mem : List (Nat × Obj)} (hs : SatW W (allBut W ks) noJ mem W) (hi : nth L i = some ⟨some d, op, ty, pos, af, g⟩) (hw : wantB L env g = some true) (hl : listed.setIfInBounds i true = listed') (hd : Nat.blt d N = true)
  (hv : OpVal P N (cx1 W ks) env mem ⟨some d, op, ty, pos, af, g⟩ v) (k : RunA1 P N W L Q f listed' ((d, v) :: env)) : ∀ a, SatA N [] env a -> wpOpIn Fence.wide 0 P L.toArray Q i (wpAnyIn Fence.wide 0 P .any L.toArray Q f (listed.setIfInBounds i true)) a W := fun a ha => by
 subst hl
 unfold wpOpIn
 rw [nth_eq] at hi
 simp only [List.getElem?_toArray, hi, wanted_of (o := ⟨some d, op, ty, pos, af, g⟩) hw ha, if_true]
 refine ⟨fun f _ => Wide.fn Fence.wide f, ?_⟩
 rw [semAt_plain _ hv.1, hv.2 a W ha hs]
 exact k.run _ (ha.put hd v)
theorem o1_call {f i : Nat} {listed listed' : Array Bool} {fi : FuncId} [Ent P fi] {d : Nat} {args : List Operand} {ats : Array TypeId} {vs : List Value} {ty : TypeId} {pos : String} {af : Array Edge} {g : Option (Nat × Bool)} {v : Value} (hi : nth L i = some ⟨some d, .call ⟨.value (.func fi), ⟨args⟩, ats⟩, ty, pos, af, g⟩) (hw : wantB L env g = some true) (hl : listed.setIfInBounds i true = listed') (hd : Nat.blt d N = true) (ha : evOps env args some = some vs)
  (hc : Calls P fi ⟨vs⟩ W fun e W' => e = .returned v /\ W' = W) (k : RunA1 P N W L Q f listed' ((d, v) :: env)) : ∀ a, SatA N [] env a -> wpOpIn Fence.wide 0 P L.toArray Q i (wpAnyIn Fence.wide 0 P .any L.toArray Q f (listed.setIfInBounds i true)) a W := fun a hA => by
 subst hl
 unfold wpOpIn
 rw [nth_eq] at hi
 simp only [List.getElem?_toArray, hi, wanted_of (o := ⟨some d, .call ⟨.value (.func fi), ⟨args⟩, ats⟩, ty, pos, af, g⟩) hw hA, if_true]
 refine ⟨fun f _ => Wide.fn Fence.wide f, ?_⟩
 have h1 := hA.evals ha
 simp only [Option.some.injEq] at h1
 rw [semAt_plain _ rfl, p_call, h1]
 refine ⟨Wide.depth Fence.wide 0, (Wide.calls (F := Fence.wide) hc).mono ?_⟩
 rintro e W' ⟨rfl, rfl⟩
 exact k.run _ (hA.put hd v)
end
end Kin
end Go

namespace Go
open Go.RowKit Go.Sort
namespace Kin
def headB2 (ops : Array Oper) (n : Nat) : Bool :=
 Region.noSelect ops && Nat.ble n ops.size &&
 (List.range n).all (fun k => (Region.ready .any ops (tailArr ops.size k)).contains k && Region.free .any ops (tailArr ops.size k) k) &&
 (List.range ops.size).all (fun j => decide (j < n) || (List.range n).all (fun i => Region.waitsFor .any ops j i || (List.range n).any (fun k => !decide (k = i) && Region.waitsFor .any ops k i)))
section
variable {P : Program} {ops : Array Oper} {C : World -> Prop}
/-- what is listed brings what it waits for -/
def ClosedQ (ops : Array Oper) (listed : Array Bool) : Prop := ∀ k ok, ops[k]? = some ok -> listed.getD k false = true -> ∀ e ∈ ok.after, Region.binds .any e = true -> listed.getD e.on false = true
theorem closedQ_set {listed : Array Bool} {j : Nat} (h : ClosedQ ops listed) (hj : j ∈ Region.ready .any ops listed) : ClosedQ ops (listed.setIfInBounds j true) := by
 intro k ok hok hk e he hb
 obtain ⟨hjun, oj, hoj, hall⟩ := mem_ready.1 hj
 have hs : j < listed.size := by
  rcases Nat.lt_or_ge j listed.size with h' | h'
  ·exact h'
  ·simp [Array.getElem?_eq_none h'] at hjun
 by_cases hjk : j = k
 ·subst hjk
  rw [hoj] at hok; cases hok
  have h1 := hall e he hb
  by_cases hje : j = e.on
  ·rw [<- hje]
   simp [Array.getD_eq_getD_getElem?, Array.getElem?_setIfInBounds, hs]
  ·rw [getD_set_ne false hje]; exact h1
 ·rw [getD_set_ne false hjk] at hk
  have h1 := h k ok hok hk e he hb
  by_cases hje : j = e.on
  ·rw [<- hje]
   simp [Array.getD_eq_getD_getElem?, Array.getElem?_setIfInBounds, hs]
  ·rw [getD_set_ne false hje]; exact h1
theorem wpAnyH_first2 {n i : Nat} {oi : Oper} {v : Value} {Lq : Act -> Prop} (hi : ops[i]? = some oi) (hsel : ∀ (j : Nat) (o : Oper) cs b, ops[j]? = some o -> o.op ≠ .select cs b) (hin : i < n) (hn : n <= ops.size)
  (htail : ∀ j, n <= j -> j < ops.size -> ∀ i, i < n -> Region.waitsFor .any ops j i = true ∨ ∃ k, k < n /\ k ≠ i /\ Region.waitsFor .any ops k i = true) :
  ∀ (f : Nat) (listed : Array Bool) (a : Act), ClosedQ ops listed ->
   (∀ j oj, ops[j]? = some oj -> j ≠ i -> listed.getD j true = false -> (∀ e ∈ oj.after, Region.binds .any e = true -> e.on ≠ i) -> oi.apart ops oj = true) ->
   i ∈ Region.ready .any ops listed -> YieldsIn P ops C oi v a ->
   wpAnyH P ops C n Lq f (listed.setIfInBounds i true) (a.put oi.dst v) -> wpAnyH P ops C n Lq (f + 1) listed a := by
 intro f
 induction f with
 | zero =>
  intro listed a hcl _ hr hy H
  refine ⟨fun h => (by rw [h] at hr; cases hr), fun j hj => ?_⟩
  by_cases hji : j = i
  ·subst hji; exact hy.qOp hi H
  ·exfalso
   have h3 := (mem_ready.1 hr).1
   have hno : ∀ k ok, ops[k]? = some ok -> (∀ e ∈ ok.after, Region.binds .any e = true -> listed.getD e.on false = true) -> Region.waitsFor .any ops k i = true -> False := by
    intro k ok hok hall hw
    obtain ⟨ok', hok', e, he, hb, hon⟩ := Region.waitsFor_spec hw
    rw [hok] at hok'; cases hok'
    have h2 := hall e he hb
    rw [hon] at h2
    rcases Nat.lt_or_ge i listed.size with h' | h'
    ·simp [h'] at h2 h3; rw [h2] at h3; cases h3
    ·simp [Array.getElem?_eq_none h'] at h2
   have h1 := (mem_ready.1 (ready_mono hj hji)).1
   rw [H.1, tailArr_getD] at h1
   obtain ⟨_, oj, hoj, hall⟩ := mem_ready.1 hj
   have hjs : j < ops.size := by
    rcases Nat.lt_or_ge j ops.size with h | h
    ·exact h
    ·rw [Array.getElem?_eq_none h] at hoj; cases hoj
   rw [if_pos hjs] at h1
   have hjn : n <= j := by simpa using h1
   rcases htail j hjn hjs i hin with h2 | ⟨k, hk, hki, h2⟩
   ·exact hno j oj hoj (fun e he hb => by simpa using hall e he hb) h2
   ·have hks : k < ops.size := by omega
    refine hno k ops[k] (Array.getElem?_eq_getElem hks) (hcl k _ (Array.getElem?_eq_getElem hks) ?_) h2
    have h4 : (listed.setIfInBounds i true).getD k false = true := by rw [H.1, tailArr_getD]; simp [hks, hk]
    rw [getD_set_ne false (Ne.symm hki)] at h4
    exact h4
 | succ f ih =>
  intro listed a hcl hfree hr hy H
  refine ⟨fun h => (by rw [h] at hr; cases hr), fun j hj => ?_⟩
  by_cases hji : j = i
  ·subst hji; exact hy.qOp hi H
  ·have h1 := H.2 j (ready_mono hj hji)
   obtain ⟨hjun, oj, hoj, hall⟩ := mem_ready.1 hj
   have hnot : ∀ e ∈ oj.after, Region.binds .any e = true -> e.on ≠ i := fun e he hb heq => by
    have h1 := hall e he hb
    have h0 := (mem_ready.1 hr).1
    rw [heq] at h1
    rcases Nat.lt_or_ge i listed.size with h' | h'
    ·simp [h'] at h0 h1; rw [h0] at h1; cases h1
    ·simp [Array.getElem?_eq_none h'] at h1
   have h2 := qOp_put hoj (hfree j oj hoj hji hjun hnot) (fun cs b => hsel i oi cs b hi) (fun cs b => hsel j oj cs b hoj) hy h1
   have hfree' : ∀ k ok, ops[k]? = some ok -> k ≠ i -> (listed.setIfInBounds j true).getD k true = false ->
     (∀ e ∈ ok.after, Region.binds .any e = true -> e.on ≠ i) -> oi.apart ops ok = true := fun k ok hk hki hun hno => by
    refine hfree k ok hk hki ?_ hno
    by_cases hjk : j = k
    ·subst hjk; exact hjun
    ·rw [getD_set_ne true hjk] at hun; exact hun
   refine qOp_mono (fun a' h3 => ih (listed.setIfInBounds j true) a' (closedQ_set hcl hj) hfree' (ready_mono hr (Ne.symm hji)) h3.1 ?_) h2
   rw [Array.setIfInBounds_comm _ _ hji]
   exact h3.2
theorem wpAnyH_lex2 {n : Nat} {Lq : Act -> Prop} (hB : headB2 ops n = true) : ∀ (l : List Oper) (k : Nat) (a : Act), ClosedQ ops (tailArr ops.size k) -> (∀ j, j < l.length -> l[j]? = ops[k + j]?) -> k + l.length = n ->
  wpQuiet P ops C Lq l a -> wpAnyH P ops C n Lq l.length (tailArr ops.size k) a
 | [], k, a, _, _, hk, h => ⟨by rw [show k = n by simpa using hk], h⟩
 | o :: l, k, a, hcl, hl, hk, h => by
  have hB' := hB
  simp only [headB2, Bool.and_eq_true] at hB'
  obtain ⟨⟨⟨hsel, hn⟩, hlex⟩, htl⟩ := hB'
  simp only [List.length_cons] at hk
  have hkn : k < n := by omega
  have h0 : ops[k]? = some o := by simpa using (hl 0 (by simp)).symm
  have hk2 := List.all_eq_true.1 hlex k (List.mem_range.2 hkn)
  simp only [Bool.and_eq_true] at hk2
  have htail : ∀ j, n <= j -> j < ops.size -> ∀ i, i < n -> Region.waitsFor .any ops j i = true ∨ ∃ k, k < n /\ k ≠ i /\ Region.waitsFor .any ops k i = true := fun j hj hjs i hin => by
   have h1 := List.all_eq_true.1 htl j (List.mem_range.2 hjs)
   simp only [Bool.or_eq_true, decide_eq_true_eq] at h1
   rcases h1 with h1 | h1
   ·omega
   ·have h2 := List.all_eq_true.1 h1 i (List.mem_range.2 hin)
    simp only [Bool.or_eq_true] at h2
    rcases h2 with h2 | h2
    ·exact .inl h2
    ·obtain ⟨k, hk1, hk2⟩ := List.any_eq_true.1 h2
     simp only [Bool.and_eq_true, Bool.not_eq_true', decide_eq_false_iff_not] at hk2
     exact .inr ⟨k, List.mem_range.1 hk1, hk2.1, hk2.2⟩
  have hst : qOp P ops C k (wpQuiet P ops C Lq l) a := by unfold qOp; simp only [h0]; exact h
  obtain ⟨v, hy, hK⟩ := yieldsIn_of_qOp h0 hst
  have hrk : k ∈ Region.ready .any ops (tailArr ops.size k) := by simpa using hk2.1
  refine wpAnyH_first2 h0 (Region.noSelect_spec hsel) hkn (Nat.le_of_ble_eq_true hn) htail l.length (tailArr ops.size k) a hcl (Region.free_spec h0 hk2.2) hrk hy ?_
  have hcl2 := closedQ_set hcl hrk
  rw [tailArr_succ] at hcl2 ⊢
  exact wpAnyH_lex2 hB l (k + 1) _ hcl2 (fun j hj => by have := hl (j + 1) (by simp; omega); simpa [Nat.add_assoc, Nat.add_comm 1 j] using this) (by omega) hK
theorem closedQ_zero : ClosedQ ops (tailArr ops.size 0) := fun k ok _ hk => by rw [tailArr_getD] at hk; simp at hk
end
section
variable {P : Program} {N : Nat} {Q : Exit -> Act -> World -> Prop} {env : List (Nat × Value)} {L l : List Oper} {W : World}
theorem c1_head2 [M : Mixed P] {id : Nat} (n : Nat) {hd : List Oper} (hB : headB2 l.toArray n = true) (hh : l.take n = hd) (k : RunH1 P N W l n hd Q env) : RunC1 P N (.region id l.toArray true) Q env W := .mk fun a ha => by
 subst hh
 have hB' := hB
 simp only [headB2, Bool.and_eq_true] at hB'
 have hn := Nat.le_of_ble_eq_true hB'.1.1.2
 simp only [List.size_toArray] at hn
 have hlt : (l.take n).length = n := by rw [List.length_take]; omega
 refine wpIn_region_any M.ok ?_
 have H := wpAnyH_lex2 (P := P) (C := fun X => ∃ q, X = W.drewN q) (Lq := fun a' => ∀ X, (∃ q, X = W.drewN q) -> wpAnyIn Fence.wide 0 P .any l.toArray Q (l.length - n) (tailArr l.length n) a' X) hB (l.take n) 0 a closedQ_zero
  (fun j hj => by rw [hlt] at hj; simp [hj]) (by omega) (k.run a ha)
 have H2 := wpAnyIn_of_head (F := Fence.wide) (m := 0) (n := n) (g := l.length - n) (Q := Q) (fun a' W' hC hq => by simpa using hq W' hC) _ _ _ _ ⟨1, drewN_drew W⟩ H
 rw [hlt, show n + (l.length - n) = l.toArray.size by simp; omega, tailArr_zero] at H2
 exact H2
end
end Kin
end Go

set_option maxRecDepth 100000
set_option maxHeartbeats 400000000
namespace Go.Proofs
open Go.RowKit Go.Kin Go.Kin.St Go.Kin.Ct Go.Kin.Sg Go.Sort
namespace R24
theorem cell_more {w W : World} {ad : Addr} {v : Value} (h : w.cell? ad = some v) (os : Array Obj) (q : Nat) (e : W = grow (w.drewN q) os) : W.cell? ad = some v := by
 subst e
 have hlt := lt_of_cell h
 unfold World.cell? at h ⊢
 rw [show (grow (w.drewN q) os).heap = w.heap ++ os from rfl, Array.getElem?_append_left hlt]
 exact h
theorem compare_any (k1 k2 : Int) (ba oa ca bb ob cb : Nat) (a b : List Int) (X Y : Value) (hX : cellsL X = [X]) (hY : cellsL Y = [Y]) (w : World) (hl : a.length = b.length) (hn : a.length <= 1000) (ha : ∀ k x, a[k]? = some x -> w.cell? ⟨ba, oa + k, none⟩ = some (.int .i64 x)) (hb : ∀ k x, b[k]? = some x -> w.cell? ⟨bb, ob + k, none⟩ = some (.int .i64 x)) :
  Calls Tryz.prog 50 ⟨[.agg ⟨[.int .i64 k1, .slice (some ⟨ba, oa, none⟩) a.length ca, X]⟩, .agg ⟨[.int .i64 k2, .slice (some ⟨bb, ob, none⟩) b.length cb, Y]⟩]⟩ w
   fun e w' => e = .returned (.int .i64 (or2 (cmpI k1 k2) (cmpL a b))) /\ ∃ q os', w' = grow (w.drewN q) os' := by
 refine fun_enter1 Tryz.func50 rfl Tryz.ntmps50 rfl rfl ?_
 repeat refine c1_seq ?_
 refine c1_region ?_
 obtain ⟨W1, hW1⟩ : ∃ W1, w.alloc (.cells ⟨[.int .i64 k1, .slice (some ⟨ba, oa, none⟩) a.length ca, X]⟩ 39 (0, 0)) = W1 := ⟨_, rfl⟩
 have e2 : W1.heap.size = w.heap.size + 1 := by rw [<- hW1]; simp
 refine l1_new (V := fun n => .pointer (some ⟨n, 0, none⟩)) (ob := .cells ⟨[.int .i64 k1, .slice (some ⟨ba, oa, none⟩) a.length ca, X]⟩ 39 (0, 0)) (c := cx1 w []) rfl rfl rfl (n_box rfl rfl) ?_
 rw [hW1]
 refine l1_new (V := fun n => .pointer (some ⟨n, 0, none⟩)) (ob := .cells ⟨[.int .i64 k2, .slice (some ⟨bb, ob, none⟩) b.length cb, Y]⟩ 39 (0, 0)) (c := cx1 w []) rfl rfl rfl (n_box rfl rfl) ?_
 rw [e2]
 obtain ⟨W2, hW2⟩ : ∃ W2, W1.alloc (.cells ⟨[.int .i64 k2, .slice (some ⟨bb, ob, none⟩) b.length cb, Y]⟩ 39 (0, 0)) = W2 := ⟨_, rfl⟩
 rw [hW2]
 have hgr : W2 = grow w #[.cells ⟨[.int .i64 k1, .slice (some ⟨ba, oa, none⟩) a.length ca, X]⟩ 39 (0, 0), .cells ⟨[.int .i64 k2, .slice (some ⟨bb, ob, none⟩) b.length cb, Y]⟩ 39 (0, 0)] := by
  rw [<- hW2, <- hW1, alloc_eq_grow, alloc_eq_grow, grow_grow]; rfl
 have hsz : W2.heap.size = w.heap.size + 2 := by rw [hgr]; simp [grow]
 have hb2 : W2.heap[w.heap.size]? = some (.cells ⟨[.int .i64 k1, .slice (some ⟨ba, oa, none⟩) a.length ca, X]⟩ 39 (0, 0)) := by rw [hgr]; simp [grow]
 have hb3 : W2.heap[w.heap.size + 1]? = some (.cells ⟨[.int .i64 k2, .slice (some ⟨bb, ob, none⟩) b.length cb, Y]⟩ 39 (0, 0)) := by rw [hgr]; simp [grow]
 obtain ⟨b2, hb2e⟩ : ∃ b2, w.heap.size = b2 := ⟨_, rfl⟩
 obtain ⟨b3, hb3e⟩ : ∃ b3, w.heap.size + 1 = b3 := ⟨_, rfl⟩
 rw [hb3e] at hb3 ⊢
 rw [hb2e] at hb2 ⊢
 have hs : SatW W2 (allBut W2 [b3, b2]) noJ [(b3, .cells ⟨[.int .i64 k2, .slice (some ⟨bb, ob, none⟩) b.length cb, Y]⟩ 39 (0, 0)), (b2, .cells ⟨[.int .i64 k1, .slice (some ⟨ba, oa, none⟩) a.length ca, X]⟩ 39 (0, 0))] W2 :=
  satW_fresh (m := [(b3, .cells ⟨[.int .i64 k2, .slice (some ⟨bb, ob, none⟩) b.length cb, Y]⟩ 39 (0, 0)), (b2, .cells ⟨[.int .i64 k1, .slice (some ⟨ba, oa, none⟩) a.length ca, X]⟩ 39 (0, 0))]) (by simp; omega) (by
   intro p hp
   simp only [List.mem_cons, List.not_mem_nil, or_false] at hp
   rcases hp with rfl | rfl
   ·exact hb3
   ·exact hb2)
 refine l1_val [b3, b2] hs rfl rfl (pEv rfl) ?_
 refine l1_nil ?_
 refine x1_then ?_
 repeat refine c1_seq ?_
 refine c1_head2 10 (by decide +kernel) rfl ?_
 refine h1_val hs rfl rfl (by first|exact pEv rfl ) ?_
 refine h1_val hs rfl rfl (by first|exact vLd rfl (by repeat constructor) rfl (by rfl) ) ?_
 refine h1_val hs rfl rfl (by first|exact pEv rfl ) ?_
 refine h1_val hs rfl rfl (by first|exact vLd rfl (by repeat constructor) rfl (by rfl) ) ?_
 refine h1_call rfl rfl rfl (fun q => cmp89_any k1 k2 _) ?_
 refine h1_val hs rfl rfl (by first|exact pEv rfl ) ?_
 refine h1_val hs rfl rfl (by first|exact vLd rfl (by repeat constructor) rfl (by rfl) ) ?_
 refine h1_val hs rfl rfl (by first|exact pEv rfl ) ?_
 refine h1_val hs rfl rfl (by first|exact vLd rfl (by repeat constructor) rfl (by rfl) ) ?_
 have hcl : ∀ q ad v, w.cell? ad = some v -> (W2.drewN q).cell? ad = some v := fun q ad v h => cell_more h _ q (by rw [hgr]; rfl)
 refine h1_call rfl rfl rfl (fun q => cmp90_any ba oa ca bb ob cb a b _ hl hn (fun k x h => hcl q _ _ (ha k x h)) (fun k x h => hcl q _ _ (hb k x h))) ?_
 refine h1_nil (fun q => ?_)
 refine a1_one (i := 10) (by decide +kernel) (o1_new (c := cx1 w []) rfl rfl rfl rfl rfl (n_buildSlice rfl rfl rfl rfl (by rfl)) ?_)
 obtain ⟨W4, hW4⟩ : ∃ W4, (W2.drewN q).alloc (.cells ⟨[.int .i64 (cmpI k1 k2), .int .i64 (cmpL a b)]⟩ 3 (0, 0)) = W4 := ⟨_, rfl⟩
 show RunA1 _ _ ((W2.drewN q).alloc (.cells ⟨[.int .i64 (cmpI k1 k2), .int .i64 (cmpL a b)]⟩ 3 (0, 0))) _ _ _ _ _
 rw [hW4]
 have h4 : W4.heap[(W2.drewN q).heap.size]? = some (.cells ⟨[.int .i64 (cmpI k1 k2), .int .i64 (cmpL a b)]⟩ 3 (0, 0)) := by rw [<- hW4]; exact World.alloc_heap_new _ _
 have hg4 : W4 = grow (w.drewN q) #[.cells ⟨[.int .i64 k1, .slice (some ⟨ba, oa, none⟩) a.length ca, X]⟩ 39 (0, 0), .cells ⟨[.int .i64 k2, .slice (some ⟨bb, ob, none⟩) b.length cb, Y]⟩ 39 (0, 0), .cells ⟨[.int .i64 (cmpI k1 k2), .int .i64 (cmpL a b)]⟩ 3 (0, 0)] := by
  rw [<- hW4, alloc_eq_grow, hgr]
  show grow (grow (w.drewN q) _) _ = _
  rw [grow_grow]; rfl
 refine a1_one (i := 11) (by decide +kernel) (o1_call rfl rfl rfl rfl rfl (or88_any _ (cmpI k1 k2) (cmpL a b) W4 (by unfold World.cell?; simp only; rw [h4]; rfl) (by unfold World.cell?; simp only; rw [h4]; rfl)) ?_)
 have hs4 : SatW W4 (allBut W4 []) noJ [] W4 := satW_fresh (m := []) (by simp) (fun p hp => by cases hp)
 refine a1_one (i := 12) (by decide +kernel) (o1_val hs4 rfl rfl rfl rfl (pEv rfl) ?_)
 refine a1_done (by decide +kernel) ?_
 refine x1_then ?_
 refine c1_ret ?_
 exact x1_ret [] hs4 rfl (by repeat constructor) rfl ⟨rfl, q, _, hg4⟩
end R24
end Go.Proofs

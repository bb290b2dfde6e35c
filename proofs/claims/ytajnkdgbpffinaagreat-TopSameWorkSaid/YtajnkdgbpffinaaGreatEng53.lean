/- Rights: the tests of one entry of the register, walked. -/
import Derived.Test.YtajnkdgbpffinaaGreatClK
import Derived.Test.YtajnkdgbpffinaaGreatEng51
set_option maxRecDepth 100000
set_option maxHeartbeats 400000000
set_option linter.unusedSectionVars false
set_option linter.unusedVariables false
set_option linter.unusedSimpArgs false
namespace Go.Proofs
open Go.RowKit Go.Kin Go.Kin.Cl
namespace R41
structure Rg where
 no : Int
 kind : Int
 ed : Int
 ho : Int
 si : Int
 of : Int
 na : ByteArray
 tw : ByteArray
 f : Int
 t : Int
 kn : Int
@[reducible] def rgE (r : Rg) : List Value := [.int .i64 r.no, .int .i64 r.kind, .int .i64 r.ed, .int .i64 r.ho, .int .i64 r.si, .int .i64 r.of, .string r.na, .string r.tw, .int .i64 r.f, .int .i64 r.t, .int .i64 r.kn]
def eqR (x y : Rg) : Bool := decide (x.no = y.no) && (decide (x.kind = y.kind) && (decide (x.ed = y.ed) && (decide (x.ho = y.ho) && (decide (x.si = y.si) && (decide (x.of = y.of) && ((x.na.toList == y.na.toList) && ((x.tw.toList == y.tw.toList) && (decide (x.f = y.f) && (decide (x.t = y.t) && decide (x.kn = y.kn))))))))))
theorem eqrg (x y : Rg) : eqV tt [30, 32, 58, 99, 109] 8 58 (.agg ⟨rgE x⟩) (.agg ⟨rgE y⟩) = some (eqR x y) := rfl
def wiB (a lo hi : Int) : Bool := decide (lo <= a /\ a <= hi)
theorem within39_calls (a lo hi : Int) (w : World) : Calls Tryz.prog 39 ⟨[.int .i64 a, .int .i64 lo, .int .i64 hi]⟩ w fun e w' => e = .returned (.bool (wiB a lo hi)) /\ Under w.heap.size w w' := by
 refine fEn Tryz.func39 rfl Tryz.ntmps39 rfl rfl (sWn w) ?_
 by_cases h1 : lo <= a
 ·by_cases h2 : a <= hi
  ·have hv : wiB a lo hi = true := decide_eq_true ⟨h1, h2⟩
   repeat (first|refine lVa rfl rfl (by first|exact pEv rfl|fail) ?_|refine lNi ?_|refine cRg ?_|refine cSq ?_|refine xTh ?_|refine c_ret ?_|refine l_dec_t rfl rfl rfl rfl rfl (by first|omega|fail) ?_|fail)
   exact x_ret rfl rfl (by repeat constructor) rfl (fun W hW => ⟨by rw [hv, decide_eq_true h2], hW.below⟩)
  ·have hv : wiB a lo hi = false := decide_eq_false fun h => h2 h.2
   repeat (first|refine lVa rfl rfl (by first|exact pEv rfl|fail) ?_|refine lNi ?_|refine cRg ?_|refine cSq ?_|refine xTh ?_|refine c_ret ?_|refine l_dec_t rfl rfl rfl rfl rfl (by first|omega|fail) ?_|fail)
   exact x_ret rfl rfl (by repeat constructor) rfl (fun W hW => ⟨by rw [hv, decide_eq_false h2], hW.below⟩)
 ·have hv : wiB a lo hi = false := decide_eq_false fun h => h1 h.1
  repeat (first|refine lVa rfl rfl (by first|exact pEv rfl|fail) ?_|refine lNi ?_|refine cRg ?_|refine cSq ?_|refine xTh ?_|refine l_skip rfl rfl ?_|refine c_ret ?_|refine l_dec_f rfl rfl rfl rfl rfl (by first|omega|fail) ?_|fail)
  exact x_ret rfl rfl (by repeat constructor) rfl (fun W hW => ⟨by rw [hv], hW.below⟩)
def datedB (x : Rg) : Bool := decide (0 <= x.f) && (decide (x.f <= x.t) && (decide (x.t <= 73048) && wiB x.ed 0 1048576))
theorem dated120_calls (x : Rg) (w : World) : Calls Tryz.prog 120 ⟨[.agg ⟨rgE x⟩]⟩ w fun e w' => e = .returned (.bool (datedB x)) /\ Under w.heap.size w w' := by
 refine fEn Tryz.func120 rfl Tryz.ntmps120 rfl rfl (sWn w) ?_
 by_cases h0 : 0 <= x.f
 rotate_left
 ·have hv : datedB x = false := by unfold datedB; rw [decide_eq_false h0]; rfl
  repeat (first|refine lVa rfl rfl (by first|exact pEv rfl|exact vLd rfl (by repeat constructor) rfl (by rfl)|fail) ?_|refine lNi ?_|refine cRg ?_|refine cSq ?_|refine xTh ?_|refine l_skip rfl rfl ?_|refine r_box rfl rfl rfl rfl (fun _ => ?_)|refine c_ret ?_|refine l_dec_f rfl rfl rfl rfl rfl (by first|omega|fail) ?_|fail)
  exact x_ret rfl rfl (by repeat constructor) rfl (fun W hW => ⟨by rw [hv], hW.below⟩)
 by_cases h1 : x.f <= x.t
 rotate_left
 ·have hv : datedB x = false := by unfold datedB; rw [decide_eq_true h0, decide_eq_false h1]; rfl
  repeat (first|refine lVa rfl rfl (by first|exact pEv rfl|exact vLd rfl (by repeat constructor) rfl (by rfl)|fail) ?_|refine lNi ?_|refine cRg ?_|refine cSq ?_|refine xTh ?_|refine l_skip rfl rfl ?_|refine r_box rfl rfl rfl rfl (fun _ => ?_)|refine c_ret ?_|refine l_dec_t rfl rfl rfl rfl rfl (by first|omega|fail) ?_|refine l_dec_f rfl rfl rfl rfl rfl (by first|omega|fail) ?_|fail)
  exact x_ret rfl rfl (by repeat constructor) rfl (fun W hW => ⟨by rw [hv], hW.below⟩)
 by_cases h2 : x.t <= 73048
 rotate_left
 ·have hv : datedB x = false := by unfold datedB; rw [decide_eq_true h0, decide_eq_true h1, decide_eq_false h2]; rfl
  repeat (first|refine lVa rfl rfl (by first|exact pEv rfl|exact vLd rfl (by repeat constructor) rfl (by rfl)|fail) ?_|refine lNi ?_|refine cRg ?_|refine cSq ?_|refine xTh ?_|refine l_skip rfl rfl ?_|refine r_box rfl rfl rfl rfl (fun _ => ?_)|refine c_ret ?_|refine l_dec_t rfl rfl rfl rfl rfl (by first|omega|fail) ?_|refine l_dec_f rfl rfl rfl rfl rfl (by first|omega|fail) ?_|fail)
  exact x_ret rfl rfl (by repeat constructor) rfl (fun W hW => ⟨by rw [hv], hW.below⟩)
 have hv : datedB x = wiB x.ed 0 1048576 := by unfold datedB; rw [decide_eq_true h0, decide_eq_true h1, decide_eq_true h2]; rfl
 repeat (first|refine lVa rfl rfl (by first|exact pEv rfl|exact vLd rfl (by repeat constructor) rfl (by rfl)|fail) ?_|refine lNi ?_|refine cRg ?_|refine cSq ?_|refine xTh ?_|refine r_box rfl rfl rfl rfl (fun _ => ?_)|refine l_dec_t rfl rfl rfl rfl rfl (by first|omega|fail) ?_|fail)
 refine r_call rfl rfl rfl (fun W hW => within39_calls _ _ _ W) ?_
 repeat (first|refine lVa rfl rfl (by first|exact pEv rfl|fail) ?_|refine lNi ?_|refine xTh ?_|refine c_ret ?_|fail)
 exact x_ret rfl rfl (by repeat constructor) rfl (fun W hW => ⟨by rw [hv], hW.below⟩)
def ownH (x : Rg) : Rg := ⟨x.no, x.kind, x.ed, x.ho, x.si, 0, ⟨#[]⟩, ⟨#[]⟩, x.f, x.t, x.kn⟩
def heldB (x : Rg) : Bool := eqR x (ownH x) && (datedB x && (wiB x.ho 0 63 && wiB x.si 0 1048577))
theorem held121_calls (x : Rg) (m : Value) (w : World) : Calls Tryz.prog 121 ⟨[.agg ⟨rgE x⟩, m]⟩ w fun e w' => e = .returned (.bool (heldB x)) /\ Under w.heap.size w w' := by
 refine fEn Tryz.func121 rfl Tryz.ntmps121 rfl rfl (sWn w) ?_
 have he := eqrg x (ownH x)
 have hd := fun W => dated120_calls x W
 have hw1 := fun W => within39_calls x.ho 0 63 W
 have hw2 := fun W => within39_calls x.si 0 1048577 W
 have hv : heldB x = (eqR x (ownH x) && (datedB x && (wiB x.ho 0 63 && wiB x.si 0 1048577))) := rfl
 generalize eqR x (ownH x) = q0 at *
 generalize datedB x = q1 at *
 generalize wiB x.ho 0 63 = q2 at *
 generalize wiB x.si 0 1048577 = q3 at *
 repeat ((fail_if_success refine c_probe (id := 2) ?_); (fail_if_success refine c_probe1 (id := 2) ?_); first|refine lVa rfl rfl (by first|exact pEv rfl|exact vLd rfl (by repeat constructor) rfl (by rfl)|exact v_build rfl rfl (by rfl)|fail) ?_|refine lNi ?_|refine cRg ?_|refine cSq ?_|refine xTh ?_|refine r_box rfl rfl rfl rfl (fun _ => ?_)|refine r_alloc rfl rfl rfl (by first|exact aggL|fail) (fun _ => ?_)|refine rSt rfl rfl rfl rfl rfl rfl rfl (by repeat constructor) (by rfl) ?_|fail)
 refine cSq ?_
 refine cRg ?_
 refine lVa rfl rfl (vLd rfl (.tail _ (.head _)) rfl (by rfl)) ?_
 refine lVa rfl rfl (vLd rfl (.head _) rfl (by rfl)) ?_
 refine lVa rfl rfl (v_eqS rfl rfl rfl he) ?_
 cases q0 with
 | false =>
  repeat (first|refine lVa rfl rfl (by first|exact pEv rfl|exact vLd rfl (by repeat constructor) rfl (by rfl)|fail) ?_|refine lNi ?_|refine xTh ?_|refine l_skip rfl rfl ?_|refine c_ret ?_|fail)
  exact x_ret rfl rfl (by repeat constructor) rfl (fun W hW => ⟨by rw [hv]; rfl, hW.below⟩)
 | true =>
 repeat (first|refine lVa rfl rfl (by first|exact pEv rfl|exact vLd rfl (by repeat constructor) rfl (by rfl)|fail) ?_|fail)
 refine r_call rfl rfl rfl (fun W hW => hd W) ?_
 cases q1 with
 | false =>
  repeat (first|refine lVa rfl rfl (by first|exact pEv rfl|fail) ?_|refine lNi ?_|refine xTh ?_|refine l_skip rfl rfl ?_|refine c_ret ?_|fail)
  exact x_ret rfl rfl (by repeat constructor) rfl (fun W hW => ⟨by rw [hv]; rfl, hW.below⟩)
 | true =>
 repeat (first|refine lVa rfl rfl (by first|exact pEv rfl|exact vLd rfl (by repeat constructor) rfl (by rfl)|fail) ?_|fail)
 refine r_call rfl rfl rfl (fun W hW => hw1 W) ?_
 cases q2 with
 | false =>
  repeat (first|refine lVa rfl rfl (by first|exact pEv rfl|fail) ?_|refine lNi ?_|refine xTh ?_|refine l_skip rfl rfl ?_|refine c_ret ?_|fail)
  exact x_ret rfl rfl (by repeat constructor) rfl (fun W hW => ⟨by rw [hv]; rfl, hW.below⟩)
 | true =>
 repeat (first|refine lVa rfl rfl (by first|exact pEv rfl|exact vLd rfl (by repeat constructor) rfl (by rfl)|fail) ?_|fail)
 refine r_call rfl rfl rfl (fun W hW => hw2 W) ?_
 repeat (first|refine lVa rfl rfl (by first|exact pEv rfl|fail) ?_|refine lNi ?_|refine xTh ?_|refine c_ret ?_|fail)
 exact x_ret rfl rfl (by repeat constructor) rfl (fun W hW => ⟨by rw [hv]; rfl, hW.below⟩)
end R41
end Go.Proofs

set_option maxRecDepth 100000
set_option maxHeartbeats 400000000
namespace Go.Proofs
open Go.RowKit Go.Kin Go.Kin.Cl
namespace R41
section
variable {P : Program} {N : Nat} {c : Cx} {env : List (Nat × Value)} {mem : List (Nat × Obj)} {ty : TypeId} {pos : String} {af : Array Edge} {g : Option (Nat × Bool)} {dd : Option Tmp}
theorem v_subW {t t' : TypeId} {x y : Operand} {m n q : Int} (hx : evOp env x = some (.int .i64 m)) (hy : evOp env y = some (.int .i64 n)) (hq : IntKind.i64.wrap (m - n) = q) :
  OpVal P N c env mem ⟨dd, .binOp .sub t x y t', ty, pos, af, g⟩ (.int .i64 q) :=
 ⟨rfl, fun a W ha _ => by subst hq; exact p_binInt (ha.eval hx) (ha.eval hy) (by simp [intBin])⟩
end
def ownB (x : Rg) : Rg := ⟨x.no, x.kind, x.ed, 0, 0, 0, x.na, x.tw, x.f, x.t, x.kn⟩
def billB (x : Rg) : Bool := eqR x (ownB x) && (datedB x && (wiB x.na.size 1 32 && wiB x.tw.size 1 32))
theorem bill119_calls (x : Rg) (m : Value) (w : World) : Calls Tryz.prog 119 ⟨[.agg ⟨rgE x⟩, m]⟩ w fun e w' => e = .returned (.bool (billB x)) /\ Under w.heap.size w w' := by
 refine fEn Tryz.func119 rfl Tryz.ntmps119 rfl rfl (sWn w) ?_
 have he := eqrg x (ownB x)
 have hd := fun W => dated120_calls x W
 have hw1 := fun W => within39_calls x.na.size 1 32 W
 have hw2 := fun W => within39_calls x.tw.size 1 32 W
 have hv : billB x = (eqR x (ownB x) && (datedB x && (wiB x.na.size 1 32 && wiB x.tw.size 1 32))) := rfl
 generalize eqR x (ownB x) = q0 at *
 generalize datedB x = q1 at *
 generalize wiB x.na.size 1 32 = q2 at *
 generalize wiB x.tw.size 1 32 = q3 at *
 repeat ((fail_if_success refine c_probe (id := 2) ?_); (fail_if_success refine c_probe1 (id := 2) ?_); first|refine lVa rfl rfl (by first|exact pEv rfl|exact vLd rfl (by repeat constructor) rfl (by rfl)|exact v_build rfl rfl (by rfl)|fail) ?_|refine lNi ?_|refine cRg ?_|refine cSq ?_|refine xTh ?_|refine r_box rfl rfl rfl rfl (fun _ => ?_)|refine r_alloc rfl rfl rfl (by first|exact aggL|fail) (fun _ => ?_)|refine rSt rfl rfl rfl rfl rfl rfl rfl (by repeat constructor) (by rfl) ?_|fail)
 refine cSq ?_
 refine cRg ?_
 refine lVa rfl rfl (vLd rfl (.tail _ (.head _)) rfl (by rfl)) ?_
 refine lVa rfl rfl (vLd rfl (.head _) rfl (by rfl)) ?_
 refine lVa rfl rfl (v_eqS rfl rfl rfl he) ?_
 cases q0 with
 | false =>
  repeat (first|refine lVa rfl rfl (by first|exact pEv rfl|exact vLd rfl (by repeat constructor) rfl (by rfl)|fail) ?_|refine lNi ?_|refine xTh ?_|refine l_skip rfl rfl ?_|refine c_ret ?_|fail)
  exact x_ret rfl rfl (by repeat constructor) rfl (fun W hW => ⟨by rw [hv]; rfl, hW.below⟩)
 | true =>
 repeat (first|refine lVa rfl rfl (by first|exact pEv rfl|exact vLd rfl (by repeat constructor) rfl (by rfl)|fail) ?_|fail)
 refine r_call rfl rfl rfl (fun W hW => hd W) ?_
 cases q1 with
 | false =>
  repeat (first|refine lVa rfl rfl (by first|exact pEv rfl|fail) ?_|refine lNi ?_|refine xTh ?_|refine l_skip rfl rfl ?_|refine c_ret ?_|fail)
  exact x_ret rfl rfl (by repeat constructor) rfl (fun W hW => ⟨by rw [hv]; rfl, hW.below⟩)
 | true =>
 repeat (first|refine lVa rfl rfl (by first|exact pEv rfl|exact vLd rfl (by repeat constructor) rfl (by rfl)|fail) ?_|fail)
 refine r_call rfl rfl rfl (fun W hW => hw1 W) ?_
 cases q2 with
 | false =>
  repeat (first|refine lVa rfl rfl (by first|exact pEv rfl|fail) ?_|refine lNi ?_|refine xTh ?_|refine l_skip rfl rfl ?_|refine c_ret ?_|fail)
  exact x_ret rfl rfl (by repeat constructor) rfl (fun W hW => ⟨by rw [hv]; rfl, hW.below⟩)
 | true =>
 repeat (first|refine lVa rfl rfl (by first|exact pEv rfl|exact vLd rfl (by repeat constructor) rfl (by rfl)|fail) ?_|fail)
 refine r_call rfl rfl rfl (fun W hW => hw2 W) ?_
 repeat (first|refine lVa rfl rfl (by first|exact pEv rfl|fail) ?_|refine lNi ?_|refine xTh ?_|refine c_ret ?_|fail)
 exact x_ret rfl rfl (by repeat constructor) rfl (fun W hW => ⟨by rw [hv]; rfl, hW.below⟩)
/-! ## Voids -/
def befL (l : List Rg) : List (Int × Value) := l.map fun r => (r.no, .agg ⟨rgE r⟩)
def oldR (l : List Rg) (k : Int) : Option Rg := l.find? fun r => decide (r.no = k)
theorem befL_get (k : Int) : ∀ l : List Rg, imGet (befL l) k = (oldR l k).map fun r => .agg ⟨rgE r⟩
 | [] => rfl
 | r :: l => by
  show (if r.no = k then some (.agg ⟨rgE r⟩) else imGet (befL l) k) = _
  unfold oldR
  rw [List.find?_cons]
  by_cases h : r.no = k
  ·rw [if_pos h, decide_eq_true h]; rfl
  ·rw [if_neg h, decide_eq_false h]; exact befL_get k l
def rg0 : Rg := ⟨0, 0, 0, 0, 0, 0, ⟨#[]⟩, ⟨#[]⟩, 0, 0, 0⟩
def ownV (x : Rg) : Rg := ⟨x.no, x.kind, 0, 0, 0, x.of, ⟨#[]⟩, ⟨#[]⟩, 0, 0, x.kn⟩
def voidB (m : List Rg) (x : Rg) : Bool := match oldR m (IntKind.i64.wrap (x.of - 1)) with
 | none => false
 | some o => decide (o.kind ≠ 4) && (decide (o.kn <= x.kn) && eqR x (ownV x))
theorem void122_calls (x : Rg) (m : List Rg) (bm : Nat) (w : World) (hm : w.heap[bm]? = some (imO (befL m))) : Calls Tryz.prog 122 ⟨[.agg ⟨rgE x⟩, .map (some bm)]⟩ w fun e w' => e = .returned (.bool (voidB m x)) /\ Under w.heap.size w w' := by
 refine fEn Tryz.func122 rfl Tryz.ntmps122 rfl rfl (sWn w) ?_
 have he := eqrg x (ownV x)
 have hg := befL_get (IntKind.i64.wrap (x.of - 1)) m
 have hv : voidB m x = match oldR m (IntKind.i64.wrap (x.of - 1)) with | none => false | some o => decide (o.kind ≠ 4) && (decide (o.kn <= x.kn) && eqR x (ownV x)) := rfl
 generalize eqR x (ownV x) = q0 at *
 obtain ⟨k, hk⟩ : ∃ k, IntKind.i64.wrap (x.of - 1) = k := ⟨_, rfl⟩
 rw [hk] at hg hv
 have hlt : bm < w.heap.size := lt_of_heap hm
 generalize oldR m k = old at *
 repeat ((fail_if_success refine c_probe (id := 1) ?_); (fail_if_success refine c_probe1 (id := 1) ?_); first|refine lVa rfl rfl (by first|exact pEv rfl|fail) ?_|refine lNi ?_|refine cRg ?_|refine cSq ?_|refine xTh ?_|refine r_box rfl rfl rfl rfl (fun _ => ?_)|fail)
 cases old with
 | none =>
  refine cSq ?_
  repeat ((fail_if_success refine c_probe (id := 2) ?_); (fail_if_success refine c_probe1 (id := 2) ?_); first|refine lVa rfl rfl (v_subW rfl rfl hk) ?_|refine lVa rfl rfl (v_imGetG (out := .tuple ⟨[.agg ⟨rgE rg0⟩, .bool false]⟩) rfl rfl rfl rfl rfl (.far hlt hm) (by rw [hg]; rfl)) ?_|refine lVa rfl rfl (by first|exact pEv rfl|exact vLd rfl (by repeat constructor) rfl (by rfl)|fail) ?_|refine lNi ?_|refine cRg ?_|refine xTh ?_|refine r_alloc rfl rfl rfl (by first|exact aggL|fail) (fun _ => ?_)|refine rSt rfl rfl rfl rfl rfl rfl rfl (by repeat constructor) (by rfl) ?_|fail)
  repeat (first|refine lVa rfl rfl (by first|exact pEv rfl|exact vLd rfl (by repeat constructor) rfl (by rfl)|exact v_build rfl rfl (by rfl)|fail) ?_|refine lNi ?_|refine cRg ?_|refine cSq ?_|refine xTh ?_|refine l_skip rfl rfl ?_|refine c_ret ?_|fail)
  exact x_ret rfl rfl (by repeat constructor) rfl (fun W hW => ⟨by rw [hv], hW.below⟩)
 | some o =>
  refine cSq ?_
  repeat ((fail_if_success refine c_probe (id := 2) ?_); (fail_if_success refine c_probe1 (id := 2) ?_); first|refine lVa rfl rfl (v_subW rfl rfl hk) ?_|refine lVa rfl rfl (v_imGetG (out := .tuple ⟨[.agg ⟨rgE o⟩, .bool true]⟩) rfl rfl rfl rfl rfl (.far hlt hm) (by rw [hg]; rfl)) ?_|refine lVa rfl rfl (by first|exact pEv rfl|exact vLd rfl (by repeat constructor) rfl (by rfl)|fail) ?_|refine lNi ?_|refine cRg ?_|refine xTh ?_|refine r_alloc rfl rfl rfl (by first|exact aggL|fail) (fun _ => ?_)|refine rSt rfl rfl rfl rfl rfl rfl rfl (by repeat constructor) (by rfl) ?_|fail)
  simp only at hv
  by_cases h1 : o.kind ≠ 4
  rotate_left
  ·rw [decide_eq_false h1] at hv
   repeat (first|refine lVa rfl rfl (by first|exact pEv rfl|exact vLd rfl (by repeat constructor) rfl (by rfl)|exact v_build rfl rfl (by rfl)|fail) ?_|refine lNi ?_|refine cRg ?_|refine cSq ?_|refine xTh ?_|refine l_skip rfl rfl ?_|refine c_ret ?_|refine l_dec_f rfl rfl rfl rfl rfl (by first|omega|fail) ?_|fail)
   exact x_ret rfl rfl (by repeat constructor) rfl (fun W hW => ⟨by rw [hv]; rfl, hW.below⟩)
  rw [decide_eq_true h1] at hv
  by_cases h2 : o.kn <= x.kn
  rotate_left
  ·rw [decide_eq_false h2] at hv
   repeat (first|refine lVa rfl rfl (by first|exact pEv rfl|exact vLd rfl (by repeat constructor) rfl (by rfl)|exact v_build rfl rfl (by rfl)|fail) ?_|refine lNi ?_|refine cRg ?_|refine cSq ?_|refine xTh ?_|refine l_skip rfl rfl ?_|refine c_ret ?_|refine l_dec_t rfl rfl rfl rfl rfl (by first|omega|fail) ?_|refine l_dec_f rfl rfl rfl rfl rfl (by first|omega|fail) ?_|fail)
   exact x_ret rfl rfl (by repeat constructor) rfl (fun W hW => ⟨by rw [hv]; rfl, hW.below⟩)
  rw [decide_eq_true h2] at hv
  repeat (first|refine lVa rfl rfl (v_eqS rfl rfl rfl he) ?_|refine lVa rfl rfl (by first|exact pEv rfl|exact vLd rfl (by repeat constructor) rfl (by rfl)|exact v_build rfl rfl (by rfl)|fail) ?_|refine lNi ?_|refine cRg ?_|refine cSq ?_|refine xTh ?_|refine c_ret ?_|refine l_dec_t rfl rfl rfl rfl rfl (by first|omega|fail) ?_|fail)
  exact x_ret rfl rfl (by repeat constructor) rfl (fun W hW => ⟨by rw [hv]; rfl, hW.below⟩)
end R41
end Go.Proofs

namespace Go
open Go.RowKit
namespace Kin
section
variable {P : Program} {N : Nat} {c : Cx} {Q : Exit -> Act -> World -> Prop} {env : List (Nat × Value)} {mem : List (Nat × Obj)} {L l : List Oper} [Wide c.F]
 {ty ty' : TypeId} {pos pos' : String} {af af' : Array Edge} {g g' : Option (Nat × Bool)}
end
end Kin
end Go

namespace Go
open Go.RowKit
namespace Kin
section
variable {P : Program} {N : Nat} {c : Cx} {Q : Exit -> Act -> World -> Prop} {env : List (Nat × Value)} {L l : List Oper} {tt : List (TypeId × TI)}
 {ty : TypeId} {pos : String} {af : Array Edge} {g : Option (Nat × Bool)}
theorem run_imPut [T : TT P tt] {t kt et b : Nat} {m kx vx : Operand} {k : Int} {v : Value} {s : List (Int × Value)} {sz bt sz' bt' : Nat} {z z' : Value} {a : Act} {W : World}
  (hm0 : a.eval m = .map (some b)) (hk : a.eval kx = .int .i64 k) (hv : a.eval vx = v) (ht : look tt t = some ⟨.map kt et, sz, bt, z⟩) (hkt : look tt kt = some ⟨.int .i64, sz', bt', z'⟩)
  (hb : W.heap[b]? = some (imO s)) : (execOp a.eval ⟨none, .mapUpdate t m kx vx, ty, pos, af, g⟩).run P W = .ok .skip (W.putObj b (imO (imPut s k v))) := by
 have hku : P.underlying kt = some (.int .i64) := (TT.look (P := P) hkt).1
 have hmu : P.underlying t = some (.map kt et) := (TT.look (P := P) ht).1
 unfold imO at hb ⊢
 rcases imF_find (k := k) (l := s) (b := 0) (i := 0) with ⟨h1, h2⟩ | ⟨w, j, h1, hj, h2, h3, h4⟩
 ·rw [imPut_new h1]
  simp only [execOp, hm0, hk, hv, Instr.mapUpdate, Sem.run_bind, run_und hmu, Result.andThen_ok, MapKept.run_getObj_map hb, MapKept.run_checkKey hku (k := .int .i64 k) rfl, MapKept.run_findKey hku h2]
  rw [MapKept.run_setObj_map _ hb]
  simp [World.putObj, imF_snoc, List.length_append]
 ·rw [imPut_old h1]
  have hst : ((((⟨imF 0 s⟩ : Array MapEntry)[0 + j]?).map (·.key)).getD (.int .i64 k)) = .int .i64 k := by
   have := imF_get (k := 0) hj
   simp [this]
  have hks : (Instr.keyThatStays (.int .i64 k) (.int .i64 k)).run P W = .ok (.int .i64 k) W := MapKept.run_keyThatStays (d := .int .i64) rfl
  simp only [execOp, hm0, hk, hv, Instr.mapUpdate, Sem.run_bind, run_und hmu, Result.andThen_ok, MapKept.run_getObj_map hb, MapKept.run_checkKey hku (k := .int .i64 k) rfl, MapKept.run_findKey hku h2, hst, hks]
  rw [MapKept.run_setObj_map _ hb, Nat.zero_add, imF_array, h4, imSet_len]
  simp [World.putObj]
variable [Wide c.F] {kt : Kt} {rd : List (Nat × Nat)} {tl : List (Nat × Obj)} {fr : OM}
/-- an update of a map keyed by numbers; `p`: the map's place -/
theorem e_imPut [T : TT P tt] {k0 t kt' et b p : Nat} {m kx vx : Operand} {k : Int} {v : Value} {s : List (Int × Value)} {sz bt sz' bt' : Nat} {z z' : Value} (hw : wantB L env g = some true)
  (hm0 : evOp env m = some (.map (some b))) (hk : evOp env kx = some (.int .i64 k)) (hv : evOp env vx = some v) (ht : look tt t = some ⟨.map kt' et, sz, bt, z⟩) (hkt : look tt kt' = some ⟨.int .i64, sz', bt', z'⟩)
  (hp : kdOf kt k0 = some (.upd p)) (hmem : fr[p]? = some (some (b, imO s)))
  (kk : RunE P N c L kt rd tl l (k0 + 1) Q env (fr.set p (some (b, imO (imPut s k v))))) : RunE P N c L kt rd tl (⟨none, .mapUpdate t m kx vx, ty, pos, af, g⟩ :: l) k0 Q env fr := .mk fun β a ha hr =>
 ⟨undef, _, .upd hp (wanted_of (o := ⟨none, .mapUpdate t m kx vx, ty, pos, af, g⟩) hw ha) rfl hmem .skip (fun W hb => run_imPut (ha.eval hm0) (ha.eval hk) (ha.eval hv) ht hkt hb), kk.run β _ ha hr⟩
end
end Kin
end Go

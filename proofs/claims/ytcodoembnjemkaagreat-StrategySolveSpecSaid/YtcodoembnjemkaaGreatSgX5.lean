/- Games on networks: the specification's sets, walked. -/
import Derived.Test.YtcodoembnjemkaaGreatEng43
set_option maxRecDepth 100000
set_option maxHeartbeats 400000000
set_option linter.unusedSectionVars false
set_option linter.unusedVariables false
set_option linter.unusedSimpArgs false
namespace Go.Proofs
open Go.RowKit Go.Kin Go.Kin.St Go.Kin.Ct Go.Kin.Sg
namespace R24
/-- a set as it lies -/
structure XR where
 S : List Nat
 a : Nat
 c : Nat
def srE (r : XR) : List Value := [.slice (some ⟨r.a, 0, none⟩) r.S.length r.c]
def srF (rs : List XR) : List Value := (rs.map srE).flatten
theorem srF_eq : ∀ {rs : List XR}, srF rs = rs.map fun r => Value.slice (some ⟨r.a, 0, none⟩) r.S.length r.c
 | [] => rfl
 | r :: rs => by show _ ++ srF rs = _; rw [srF_eq]; rfl
theorem srF_len {rs : List XR} : (srF rs).length = rs.length * 1 := by rw [srF_eq, List.length_map, Nat.mul_one]
theorem srF_app {a b : List XR} : srF (a ++ b) = srF a ++ srF b := by rw [srF_eq, srF_eq, srF_eq, List.map_append]
theorem srF_get {rs : List XR} {k : Nat} {r : XR} (h : rs[k]? = some r) (rest : List Value) : (srF rs ++ rest)[k]? = some (.slice (some ⟨r.a, 0, none⟩) r.S.length r.c) := by
 have hlt := (List.getElem?_eq_some_iff.1 h).1
 rw [List.getElem?_append_left (by rw [srF_len]; omega), srF_eq, List.getElem?_map, h]; rfl
/-- a set on the ground -/
structure XG (lo : Nat) (W : World) (D : Nat -> Prop) (r : XR) : Prop where
 at_ : Ar W D (some ⟨r.a, 0, none⟩) 1 (r.S.map nE)
 lo : lo <= r.a
 hi : r.a < W.heap.size
theorem XG.move {lo : Nat} {W W' : World} {D D' : Nat -> Prop} {r : XR} (h : XG lo W D r) (hS : Same D W W') (hD : ∀ k, D k -> D' k) : XG lo W' D' r := ⟨h.at_.move hS hD, h.lo, Nat.lt_of_lt_of_le h.hi hS.size⟩
/-- sets in memory of their own -/
structure XI where
 rs : List XR
 b : Nat
 c : Nat
 r : List Value
structure XI.OK (rows : List (List Nat)) (i : XI) : Prop where
 s : i.rs.map XR.S = rows
 g : Grow 1 rows.length (srF i.rs) i.c i.r
def SetsQ (rows : List (List Nat)) (w : World) (e : Ending) (w' : World) : Prop := ∃ i : { i : XI // i.OK rows }, e = .returned (.slice (some ⟨i.1.b, 0, none⟩) rows.length i.1.c) /\ Below w.heap.size w w' /\
 (w.heap.size <= i.1.b /\ w'.heap[i.1.b]? = some (.cells ⟨srF i.1.rs ++ i.1.r⟩ 37 (0, 0)) /\ ∀ r ∈ i.1.rs, w.heap.size <= r.a /\ r.a < w'.heap.size /\ At w' (some ⟨r.a, 0, none⟩) 1 (r.S.map nE))
/-- where the walk is -/
structure XO where
 i : Nat
 W : World
 x : XI
def XO.D (s : XO) : Nat -> Prop := allBut s.W [s.x.b]
structure XN where
 k : Nat
 W : World
 x : XI
theorem low {w W W' : World} {D : Nat -> Prop} {J : (Nat -> Prop) -> World -> Prop} {mem : List (Nat × Obj)} (h1 : Same (base w) w W) (h2 : ∀ k, base w k -> D k) (h : SatW W D J mem W') : Below w.heap.size w W' := (h1.trans (h.same.mono h2)).base_later
theorem mem_cast {x : Nat} {l : List Nat} : decide ((x : Int) ∈ castL l) = decide (x ∈ l) := by
 rw [<- castL_contains, List.contains_eq_mem]
theorem setS_len {all : List Nat} {x : Nat} : ∀ (m : List (List Nat)), (m.flatMap (setS all x)).length <= m.length * 2
 | [] => Nat.le_refl _
 | s :: m => by
  rw [List.flatMap_cons, List.length_append, List.length_cons]
  have := setS_len (all := all) (x := x) m
  have : (setS all x s).length <= 2 := by unfold setS; split <;> simp
  omega
theorem setsF_short {all : List Nat} {S l : List Nat} (h : S ∈ setsF all l) : S.length <= l.length := by
 have key : ∀ (n : Nat) (l : List Nat), l.length = n -> ∀ S ∈ setsF all l, S.length <= n := by
  intro n
  induction n with
  | zero =>
   intro l hl S hS
   obtain rfl := List.eq_nil_of_length_eq_zero hl
   rw [List.mem_singleton.1 hS]; exact Nat.le_refl _
  | succ n ih =>
   intro l hl S hS
   have hne : l ≠ [] := fun h => by rw [h] at hl; cases hl
   obtain ⟨l', x, rfl⟩ : ∃ l' x, l = l' ++ [x] := ⟨l.dropLast, l.getLast hne, (List.dropLast_concat_getLast hne).symm⟩
   rw [List.length_append] at hl
   rw [setsF_add, List.mem_flatMap] at hS
   obtain ⟨s, hs, h⟩ := hS
   have h1 := ih l' (by simpa using hl) s hs
   rcases setS_mem.1 h with rfl | ⟨_, rfl⟩
   ·rw [List.length_append]; simp; omega
   ·omega
 exact key _ l rfl S h
theorem sets61_calls (A A2 : Option Addr) (ca ca2 : Nat) (l all : List Nat) (w : World) (hA : At w A 1 (l.map nE)) (hA2 : At w A2 1 (all.map nE)) (hl : l.length <= 6) (hal : all.length <= 1000) :
  Calls Tryz.prog 61 ⟨[.slice A l.length ca, .slice A2 all.length ca2]⟩ w (SetsQ (setsF all l) w) := by
 refine fEn Tryz.func61 rfl Tryz.ntmps61 rfl rfl (sWn w) ?_
 repeat (first|refine lVa rfl rfl (by first|exact pEv rfl|fail) ?_|refine lNi ?_|refine cRg ?_|refine cSq ?_|refine xTh ?_|refine r_buildSlice rfl rfl rfl rfl rfl rfl (by rfl) (fun _ => ?_)|refine cBl ?_|fail)
 rename_i b10 b11
 refine c_loopW (ι := XO) (fun s => s.i <= l.length /\ Same (base w) w s.W /\ (∀ k, base w k -> s.D k) /\ s.x.OK (setsF all (l.take s.i)) /\ ∀ r ∈ s.x.rs, XG w.heap.size s.W s.D r) (fun _ => []) (fun s => s.W) XO.D (fun _ => noJ)
  (fun s => [(0, .slice A l.length ca), (1, .slice A2 all.length ca2), (5, .slice (some ⟨s.x.b, 0, none⟩) (setsF all (l.take s.i)).length s.x.c), (6, .int .i64 s.i)])
  (fun s => [(s.x.b, .cells ⟨srF s.x.rs ++ s.x.r⟩ 37 (0, 0))]) (fun s => l.length - s.i) (fun a0 W ha hmm => ?_) ?_
 ·have hD : ∀ k, base w k -> XO.D ⟨0, W, ⟨[⟨[], b10, 0⟩], b11, 1, []⟩⟩ k := hmm.allBut (mem' := [(b11, .cells ⟨srF [⟨[], b10, 0⟩] ++ []⟩ 37 (0, 0))]) (by repeat (first|exact .nil|refine .keep (by first|rfl|assumption) ?_|refine .drop ?_|exact MSub.refl _))
  refine ⟨⟨0, W, ⟨[⟨[], b10, 0⟩], b11, 1, []⟩⟩, ⟨Nat.zero_le _, hmm.same, hD, ⟨rfl, rfl, rfl, Nat.le_refl _, (by decide : (1 : Nat) <= maxLen)⟩, fun r hr => ?_⟩, (show EnvSub _ [(0, .slice A l.length ca), (1, .slice A2 all.length ca2), (5, .slice (some ⟨b11, 0, none⟩) 1 1), (6, .int .i64 ((0 : Nat) : Int))] from (by repeat (first|exact .nil|refine .cons rfl (by first|rfl|(congr 1; done)|exact congrArg _ (by omega)|(simp; done)) ?_))).sat ha, (hmm.fresh0 (mem' := [(b11, .cells ⟨srF [⟨[], b10, 0⟩] ++ []⟩ 37 (0, 0))]) (by repeat (first|exact .nil|refine .keep (by first|rfl|assumption) ?_|refine .drop ?_|exact MSub.refl _)) : SatW W (allBut W [b11]) noJ _ W)⟩
  rw [List.mem_singleton.1 hr]
  have h := hmm.own (b10, .cells ⟨[]⟩ 3 (0, 0)) (by repeat constructor)
  exact ⟨fun i r hr => by simp at hr, Nat.le_of_not_lt h.1, hmm.lt (p := (b10, .cells ⟨[]⟩ 3 (0, 0))) (by repeat constructor)⟩
 rintro ⟨i, W, rs, b, c, rest⟩ ⟨hi, hS, hD, hok, hgr⟩
 obtain ⟨hrs, hg⟩ := hok
 simp only at hi hS hD hrs hg hgr ⊢
 have hDb : XO.D ⟨i, W, ⟨rs, b, c, rest⟩⟩ = allBut W [b] := rfl
 generalize XO.D ⟨i, W, ⟨rs, b, c, rest⟩⟩ = D at *
 by_cases hlt : i < l.length
 rotate_left
 ·have hie : i = l.length := by omega
  subst hie
  rw [List.take_length] at hrs hg ⊢
  repeat (first|refine lVa rfl rfl (by first|exact pEv rfl|fail) ?_|refine lNi ?_|refine cRg ?_|refine cSq ?_|refine xTh ?_|refine c_dec_f rfl (by first|omega|fail) ?_|refine c_ret ?_|refine c_exit ?_|refine xTe ?_|refine xBs ?_|fail)
  refine x_ret rfl rfl (by repeat constructor) rfl (fun W' hW => ⟨⟨⟨rs, b, c, rest⟩, hrs, hg⟩, rfl, low hS hD hW, ?_, (hW.own (b, .cells ⟨srF rs ++ rest⟩ 37 (0, 0)) (by repeat constructor)).2, fun r hr => ⟨(hgr r hr).lo, Nat.lt_of_lt_of_le (hgr r hr).hi hW.same.size, (hgr r hr).at_.at hW⟩⟩)
  exact Nat.le_of_not_lt fun h => (hW.own (b, .cells ⟨srF rs ++ rest⟩ 37 (0, 0)) (by repeat constructor)).1 (hD b h)
 obtain ⟨x, hx⟩ : ∃ x, l[i]? = some x := ⟨_, List.getElem?_eq_getElem hlt⟩
 obtain ⟨bA, oA, hAe, hA1⟩ := hA i (nE x) (by simp [hx])
 have eA0 := ext_of hA1
 rw [Nat.mul_one] at eA0
 subst hAe
 have eA := eA0.move hS hD
 have hsu := setsF_take (all := all) hx
 have hr64 : (setsF all (l.take i)).length <= 64 := by
  have h1 := setsF_len (all := all) _ (l.take i) rfl
  have h2 : (l.take i).length <= 6 := by rw [List.length_take]; omega
  have h3 := Nat.pow_le_pow_right (n := 2) (by decide) h2
  omega
 obtain ⟨rows, hrows⟩ : ∃ rows, setsF all (l.take i) = rows := ⟨_, rfl⟩
 rw [hrows] at hrs hg hsu hr64 ⊢
 have hrl : rs.length = rows.length := by rw [<- hrs, List.length_map]
 repeat (first|refine lVa rfl rfl (by first|exact pEv rfl|exact vL0 rfl (by assumption) rfl (by rfl)|exact v_index rfl rfl rfl rfl (by omega) (by omega) (by with_reducible first|exact idx2 _ _|fail)|fail) ?_|refine lNi ?_|refine cRg ?_|refine cSq ?_|refine xTh ?_|refine r_buildSlice rfl rfl rfl rfl rfl rfl (by rfl) (fun _ => ?_)|refine c_dec_t rfl (by first|omega|fail) ?_|refine cBl ?_|refine cSk ?_|fail)
 refine r_call (v := .bool (decide (x ∈ all))) rfl rfl rfl (fun W' hW => ?_) ?_
 ·have := has69_calls A2 ca2 (castL all) x W' (by rw [castL_rows]; exact hA2.later (low hS hD hW)) (by rw [castL_len]; omega)
  rw [castL_len, mem_cast] at this
  exact this
 repeat (first|refine lVa rfl rfl (by first|exact pEv rfl|fail) ?_|refine lNi ?_|refine cRg ?_|refine cSq ?_|refine xTh ?_|refine cBl ?_|fail)
 rename_i b7
 refine c_loopW (ι := XN) (fun s => s.k <= rows.length /\ Same (base w) w s.W /\ (∀ k, base w k -> allBut s.W [s.x.b, b] k) /\ s.x.OK ((rows.take s.k).flatMap (setS all x)) /\ (∀ r ∈ s.x.rs, XG w.heap.size s.W (allBut s.W [s.x.b, b]) r) /\ ∀ r ∈ rs, XG w.heap.size s.W (allBut s.W [s.x.b, b]) r) (fun _ => []) (fun s => s.W) (fun s => allBut s.W [s.x.b, b]) (fun _ => noJ)
  (fun s => [(0, .slice (some ⟨bA, oA, none⟩) l.length ca), (1, .slice A2 all.length ca2), (5, .slice (some ⟨b, 0, none⟩) rows.length c), (6, .int .i64 i), (7, .slice (some ⟨s.x.b, 0, none⟩) ((rows.take s.k).flatMap (setS all x)).length s.x.c), (8, .bool (decide (x ∈ all))), (9, .int .i64 s.k)])
  (fun s => [(s.x.b, .cells ⟨srF s.x.rs ++ s.x.r⟩ 37 (0, 0)), (b, .cells ⟨srF rs ++ rest⟩ 37 (0, 0))]) (fun s => rows.length - s.k) (fun a0 W' ha hmm => ?_) ?_
 ·have hD2 : ∀ k, D k -> allBut W' [b7, b] k := hmm.allBut (mem' := [(b7, .cells ⟨srF [] ++ []⟩ 37 (0, 0)), (b, .cells ⟨srF rs ++ rest⟩ 37 (0, 0))]) (by repeat (first|exact .nil|refine .keep (by first|rfl|assumption) ?_|refine .drop ?_|exact MSub.refl _))
  exact ⟨⟨0, W', ⟨[], b7, 0, []⟩⟩, ⟨Nat.zero_le _, hS.trans (hmm.same.mono hD), fun k hk => hD2 k (hD k hk), ⟨rfl, rfl, rfl, Nat.le_refl _, (by decide : (0 : Nat) <= maxLen)⟩, fun r hr => (by cases hr), fun r hr => (hgr r hr).move hmm.same hD2⟩, (show EnvSub _ [(0, .slice (some ⟨bA, oA, none⟩) l.length ca), (1, .slice A2 all.length ca2), (5, .slice (some ⟨b, 0, none⟩) rows.length c), (6, .int .i64 i), (7, .slice (some ⟨b7, 0, none⟩) 0 0), (8, .bool (decide (x ∈ all))), (9, .int .i64 ((0 : Nat) : Int))] from (by repeat (first|exact .nil|refine .cons rfl (by first|rfl|(congr 1; done)|exact congrArg _ (by omega)|(simp; done)) ?_))).sat ha, (hmm.fresh0 (mem' := [(b7, .cells ⟨srF [] ++ []⟩ 37 (0, 0)), (b, .cells ⟨srF rs ++ rest⟩ 37 (0, 0))]) (by repeat (first|exact .nil|refine .keep (by first|rfl|assumption) ?_|refine .drop ?_|exact MSub.refl _)) : SatW W' (allBut W' [b7, b]) noJ _ W')⟩
 rintro ⟨k, W1, rs1, b1, c1, rest1⟩ ⟨hk, hS1, hD1, ⟨hrs1, hg1⟩, hgr1, hgrs⟩
 simp only at hk hS1 hD1 hrs1 hg1 hgr1 hgrs ⊢
 have hDb1 : allBut W1 [b1, b] = allBut W1 [b1, b] := rfl
 generalize hDe : allBut W1 [b1, b] = D1 at *
 by_cases hkt : k < rows.length
 rotate_left
 ·have hke : k = rows.length := by omega
  subst hke
  rw [List.take_length, <- hsu] at hrs1 hg1 ⊢
  repeat (first|refine lVa rfl rfl (by first|exact v_add rfl rfl (by omega) (by omega)|exact pEv rfl|fail) ?_|refine lNi ?_|refine cRg ?_|refine cSq ?_|refine xTh ?_|refine c_dec_f rfl (by first|omega|fail) ?_|refine c_exit ?_|refine xTe ?_|refine x_block ?_|refine xBs ?_|fail)
  refine x_backW fun a0 W' ha hmm => ?_
  have hD2 : ∀ k, D1 k -> allBut W' [b1] k := hmm.allBut (mem' := [(b1, .cells ⟨srF rs1 ++ rest1⟩ 37 (0, 0))]) (by repeat (first|exact .nil|refine .keep (by first|rfl|assumption) ?_|refine .drop ?_|exact MSub.refl _))
  exact ⟨⟨i + 1, W', ⟨rs1, b1, c1, rest1⟩⟩, ⟨hlt, hS1.trans (hmm.same.mono hD1), fun k hk => hD2 k (hD1 k hk), ⟨hrs1, hg1⟩, fun r hr => (hgr1 r hr).move hmm.same hD2⟩, (by simp only; omega), (show EnvSub _ [(0, .slice (some ⟨bA, oA, none⟩) l.length ca), (1, .slice A2 all.length ca2), (5, .slice (some ⟨b1, 0, none⟩) (setsF all (l.take (i + 1))).length c1), (6, .int .i64 ((i + 1 : Nat) : Int))] from (by repeat (first|exact .nil|refine .cons rfl (by first|rfl|(congr 1; done)|exact congrArg _ (by omega)|(simp; done)) ?_))).sat ha, (hmm.fresh0 (mem' := [(b1, .cells ⟨srF rs1 ++ rest1⟩ 37 (0, 0))]) (by repeat (first|exact .nil|refine .keep (by first|rfl|assumption) ?_|refine .drop ?_|exact MSub.refl _)) : SatW W' (allBut W' [b1]) noJ _ W')⟩
 obtain ⟨⟨S, a, cr⟩, hr⟩ : ∃ r, rs[k]? = some r := ⟨_, List.getElem?_eq_getElem (by omega)⟩
 have hget := srF_get hr rest
 have hrg := hgrs _ (List.mem_of_getElem? hr)
 have hSk : rows[k]? = some S := by rw [<- hrs, List.getElem?_map, hr]; rfl
 have hSl : S.length <= 6 := by
  have h1 : S ∈ setsF all (l.take i) := by rw [hrows]; exact List.mem_of_getElem? hSk
  have h2 := setsF_short h1
  rw [List.length_take] at h2
  omega
 simp only at hget
 have hrat := hrg.at_
 simp only at hrat
 obtain ⟨prev, hprev⟩ : ∃ prev, (rows.take k).flatMap (setS all x) = prev := ⟨_, rfl⟩
 obtain ⟨mid, hmid⟩ : ∃ mid, (if x ∈ all then prev else prev ++ [S]) = mid := ⟨_, rfl⟩
 have hnext : (rows.take (k + 1)).flatMap (setS all x) = mid ++ [S ++ [x]] := by
  rw [List.take_add_one, hSk, List.flatMap_append, hprev, <- hmid]
  show prev ++ (setS all x S ++ []) = _
  unfold setS
  split <;> simp
 have hpl : prev.length <= 128 := by
  rw [<- hprev]
  exact Nat.le_trans (setS_len _) (by rw [List.length_take]; omega)
 rw [hprev] at hrs1 hg1 ⊢
 have hml : mid.length <= 129 := by
  rw [<- hmid]
  split
  ·omega
  ·rw [List.length_append]; show prev.length + 1 <= _; omega
 have eA1 := eA0.move hS1 hD1
 repeat ((fail_if_success refine c_probe (id := 10) ?_); (fail_if_success refine c_probe1 (id := 10) ?_); first|refine lVa rfl rfl (by first|exact pEv rfl|fail) ?_|refine lNi ?_|refine cRg ?_|refine cSq ?_|refine xTh ?_|refine c_dec_t rfl (by first|omega|fail) ?_|refine cBl ?_|refine cSk ?_|fail)
 refine c_joinI (ι := XI) (fun s => s.OK mid /\ ∀ r ∈ s.rs, XG w.heap.size W1 D1 r) (fun s => [(0, .slice (some ⟨bA, oA, none⟩) l.length ca), (1, .slice A2 all.length ca2), (5, .slice (some ⟨b, 0, none⟩) rows.length c), (6, .int .i64 i), (7, .slice (some ⟨s.b, 0, none⟩) mid.length s.c), (8, .bool (decide (x ∈ all))), (9, .int .i64 k)])
  (fun s => [(s.b, .cells ⟨srF s.rs ++ s.r⟩ 37 (0, 0)), (b, .cells ⟨srF rs ++ rest⟩ 37 (0, 0))]) ?_ ?_
 ·by_cases hxa : x ∈ all
  ·rw [if_pos hxa] at hmid
   subst hmid
   rw [decide_eq_true hxa]
   repeat (first|refine lVa rfl rfl (by first|exact pEv rfl|fail) ?_|refine lNi ?_|refine cRg ?_|refine cSq ?_|refine xTh ?_|refine c_false rfl ?_|refine cSk ?_|fail)
   exact x_midI ⟨rs1, b1, c1, rest1⟩ ⟨⟨hrs1, hg1⟩, hgr1⟩ (by repeat (first|exact .nil|refine .cons rfl (by first|rfl|(congr 1; done)|exact congrArg _ (by omega)|(simp; done)) ?_)) (by repeat (first|exact .nil|refine .keep (by first|rfl|assumption) ?_|refine .drop ?_|exact MSub.refl _))
  ·rw [if_neg hxa] at hmid
   rw [decide_eq_false hxa]
   have hfl : srF rs1 ++ [Value.slice (some ⟨a, 0, none⟩) S.length cr] = srF (rs1 ++ [⟨S, a, cr⟩]) := by rw [srF_app]; rfl
   have hll : prev.length + 1 = mid.length := by rw [<- hmid, List.length_append]; rfl
   repeat (first|refine lVa rfl rfl (by first|exact pEv rfl|exact v_index rfl rfl rfl rfl (by omega) (by omega) (by with_reducible first|exact idx1 _|fail)|exact v_load_at rfl (by repeat constructor) rfl rfl (by first|assumption|fail)|fail) ?_|refine lNi ?_|refine cRg ?_|refine cSq ?_|refine xTh ?_|refine r_buildSlice rfl rfl rfl rfl rfl rfl (by rfl) (fun _ => ?_)|refine c_true rfl ?_|fail)
   refine r_append (xs := srF rs1) (rest := rest1) (n := prev.length) (cap := c1) (ys := [.slice (some ⟨a, 0, none⟩) S.length cr]) rfl rfl rfl rfl rfl rfl (news_own (by repeat constructor)) (Rem.tail Rem.head) hg1 rfl rfl rfl (by omega) (by unfold maxLen; omega) (fun b' c' r' hg => ?_)
   rw [hfl, hll] at hg ⊢
   repeat (first|refine lVa rfl rfl (by first|exact pEv rfl|fail) ?_|refine lNi ?_|fail)
   refine x_midI ⟨rs1 ++ [⟨S, a, cr⟩], b', c', r'⟩ ⟨⟨by rw [List.map_append, hrs1, <- hmid]; rfl, hg⟩, fun r hr => ?_⟩ (by repeat (first|exact .nil|refine .cons rfl (by first|rfl|(congr 1; done)|exact congrArg _ (by omega)|(simp; done)) ?_)) (by repeat (first|exact .nil|refine .keep (by first|rfl|assumption) ?_|refine .drop ?_|exact MSub.refl _))
   rcases List.mem_append.1 hr with h | h
   ·exact hgr1 r h
   ·rw [List.mem_singleton.1 h]; exact hrg
 clear hgr1 hrs1 hg1
 rintro ⟨rs2, b2, c2, rest2⟩ ⟨⟨hrs2, hg2⟩, hgr2⟩
 simp only at hrs2 hg2 hgr2 ⊢
 refine c_new 1 6 [(1, .new 1), (6, .app 2 (some 1) 1), (11, .new 3), (12, .app 4 (some 2) 1), (13, .new 5), (14, .app 6 (some 0) 1)] [(1, [1]), (6, [2, 1]), (11, [3]), (12, [4, 2]), (13, [5]), (14, [6, 0])] [(6, 1), (12, 3), (12, 2), (14, 5), (14, 0)] rfl (by decide +kernel) rfl ?_
 repeat (first|refine e_val rfl rfl rfl rfl (by first|exact pEv rfl|exact v_index rfl rfl rfl rfl (by omega) (by omega) (by with_reducible first|exact idx1 _|fail)|exact v_load_at rfl (by repeat constructor) rfl rfl (by first|assumption|fail)|fail) ?_|refine e_new rfl rfl rfl rfl (by first|exact n_buildSlice rfl rfl rfl rfl (by rfl)|fail) (fun _ => ?_)|fail)
 rename_i b41
 refine e_app (xs := flI (castL S)) (n := S.length) (e := 3) rfl rfl rfl rfl rfl (by decide) (by rw [flI_len, castL_len]) (by unfold maxLen; omega) rfl ?_ (fun b3 c3 r3 hg3 => ?_)
 ·have hnw : ∀ mem, News ⟨Fence.wide, 0, [], W1, D1, noJ⟩ mem a 0 (flI (castL S)) := fun mem => news_at (fun W' hW => by rw [castL_rows]; exact hrat.at hW)
  cases S with
  | nil => exact a_append0 (xs := []) (rest := []) rfl rfl rfl rfl (by repeat constructor) ⟨rfl, rfl, Nat.le_refl _, (by decide : (0 : Nat) <= maxLen)⟩
  | cons y ys => exact a_append (xs := []) (rest := []) rfl rfl rfl rfl (hnw _) (by repeat constructor) ⟨rfl, rfl, Nat.le_refl _, (by decide : (0 : Nat) <= maxLen)⟩ (show (flI (castL (y :: ys))).length = (y :: ys).length * 1 from by rw [flI_len, castL_len]) (allOne_mem flI_one) rfl (Nat.zero_add _) (by omega) (by unfold maxLen; omega)
 repeat (first|refine e_val rfl rfl rfl rfl (by first|exact pEv rfl|exact vL0 rfl (by assumption) rfl (by rfl)|exact v_index rfl rfl rfl rfl (by omega) (by omega) (by with_reducible first|exact idx2 _ _|fail)|fail) ?_|refine e_new rfl rfl rfl rfl (by first|exact n_buildSlice rfl rfl rfl rfl (by rfl)|fail) (fun _ => ?_)|fail)
 have hSx : S.length + 1 = (S ++ [x]).length := by rw [List.length_append]; rfl
 have hmx : mid.length + 1 = (mid ++ [S ++ [x]]).length := by rw [List.length_append]; rfl
 refine e_app (xs := flI (castL S) ++ [.int .i64 x]) (n := (S ++ [x]).length) (e := 3) rfl rfl rfl rfl rfl (by decide) (by rw [List.length_append, flI_len, castL_len, <- hSx]; rfl) (by unfold maxLen; omega) rfl (a_append (rest := r3) rfl rfl rfl rfl (news_own (by repeat constructor)) (by repeat constructor) hg3 rfl (allOne_mem rfl) rfl hSx (by omega) (by unfold maxLen; omega)) (fun b4 c4 r4 hg4 => ?_)
 repeat (first|refine e_new rfl rfl rfl rfl (by first|exact n_buildSlice rfl rfl rfl rfl (by rfl)|fail) (fun _ => ?_)|fail)
 refine e_app (xs := srF rs2 ++ [.slice (some ⟨b4, 0, none⟩) (S ++ [x]).length c4]) (n := (mid ++ [S ++ [x]]).length) (e := 37) rfl rfl rfl rfl rfl (by decide) (by rw [List.length_append, srF_len, <- hmx, <- hrs2, List.length_map]; rfl) (by unfold maxLen; omega) rfl (a_append (rest := rest2) rfl rfl rfl rfl (news_own (by repeat constructor)) (by repeat constructor) hg2 rfl (allOne_mem rfl) rfl hmx (by omega) (by unfold maxLen; omega)) (fun b5 c5 r5 hg5 => ?_)
 have hf4 : flI (castL S) ++ [Value.int .i64 x] = flI (castL (S ++ [x])) := by rw [castL_app, flI_app]; rfl
 have hf5 : srF rs2 ++ [Value.slice (some ⟨b4, 0, none⟩) (S ++ [x]).length c4] = srF (rs2 ++ [XR.mk (S ++ [x]) b4 c4]) := by rw [srF_app]; rfl
 rw [hf5] at hg5 ⊢
 rw [hf4]
 rw [<- hnext] at hg5 ⊢
 repeat (first|refine lVa rfl rfl (by first|exact v_add rfl rfl (by omega) (by omega)|exact pEv rfl|fail) ?_|refine lNi ?_|refine cRg ?_|refine xTh ?_|refine x_block ?_|refine e_val rfl rfl rfl rfl (by first|exact pEv rfl|fail) ?_|refine e_nil rfl ?_|fail)
 refine x_backW fun a0 W' ha hmm => ?_
 have hD2 : ∀ k, D1 k -> allBut W' [b5, b] k := hmm.allBut (mem' := [(b5, .cells ⟨srF (rs2 ++ [XR.mk (S ++ [x]) b4 c4]) ++ r5⟩ 37 (0, 0)), (b, .cells ⟨srF rs ++ rest⟩ 37 (0, 0))]) (by repeat (first|exact .nil|refine .keep (by first|rfl|assumption) ?_|refine .drop ?_|exact MSub.refl _))
 have h4 := hmm.own (b4, .cells ⟨flI (castL (S ++ [x])) ++ r4⟩ 3 (0, 0)) (by repeat constructor)
 have hl4 := hmm.lt (p := (b4, .cells ⟨flI (castL (S ++ [x])) ++ r4⟩ 3 (0, 0))) (by repeat constructor)
 have hat4 := at_flI hmm (b := b4) (l := castL (S ++ [x])) (r := r4) (T := 3) (fr := (0, 0)) (by repeat constructor)
 rw [castL_rows] at hat4
 have hnd := hmm.nodup
 simp only [List.map_cons, List.nodup_cons, List.mem_cons, not_or] at hnd
 have hd4 : allBut W' [b5, b] b4 := ⟨hl4, fun h => by
  rcases List.mem_cons.1 h with h | h
  ·exact hnd.2.1.2.1 h
  ·exact hnd.2.1.2.2.1 (List.mem_singleton.1 h)⟩
 refine ⟨⟨k + 1, W', ⟨rs2 ++ [XR.mk (S ++ [x]) b4 c4], b5, c5, r5⟩⟩, ⟨hkt, hS1.trans (hmm.same.mono hD1), fun k hk => hD2 k (hD1 k hk), ⟨?_, hg5⟩, fun r hr => ?_, fun r hr => (hgrs r hr).move hmm.same hD2⟩, (by simp only; omega), (show EnvSub _ [(0, .slice (some ⟨bA, oA, none⟩) l.length ca), (1, .slice A2 all.length ca2), (5, .slice (some ⟨b, 0, none⟩) rows.length c), (6, .int .i64 i), (7, .slice (some ⟨b5, 0, none⟩) ((rows.take (k + 1)).flatMap (setS all x)).length c5), (8, .bool (decide (x ∈ all))), (9, .int .i64 ((k + 1 : Nat) : Int))] from (by repeat (first|exact .nil|refine .cons rfl (by first|rfl|(congr 1; done)|exact congrArg _ (by omega)|(simp; done)) ?_))).sat ha, (hmm.fresh0 (mem' := [(b5, .cells ⟨srF (rs2 ++ [XR.mk (S ++ [x]) b4 c4]) ++ r5⟩ 37 (0, 0)), (b, .cells ⟨srF rs ++ rest⟩ 37 (0, 0))]) (by repeat (first|exact .nil|refine .keep (by first|rfl|assumption) ?_|refine .drop ?_|exact MSub.refl _)) : SatW W' (allBut W' [b5, b]) noJ _ W')⟩
 ·rw [List.map_append, hrs2]; simp only; rw [hnext]; rfl
 ·rcases List.mem_append.1 hr with h | h
  ·exact (hgr2 r h).move hmm.same hD2
  ·rw [List.mem_singleton.1 h]
   refine ⟨fun j r hr => ?_, Nat.le_of_not_lt fun h => h4.1 (hD1 b4 h), hl4⟩
   obtain ⟨b', o, e, hc⟩ := hat4 j r hr
   cases e
   exact ⟨_, _, rfl, hd4, fun q v hv => hc q v hv⟩
end R24
end Go.Proofs

set_option maxRecDepth 100000
set_option maxHeartbeats 400000000
namespace Go.Proofs
open Go.RowKit Go.Kin Go.Kin.St Go.Kin.Ct Go.Kin.Sg
namespace R24
theorem all64_calls (A B : Option Addr) (ca cb : Nat) (l m : List Int) (bb : Bool) (w : World) (hA : At w A 1 (l.map inE)) (hB : At w B 1 (m.map inE)) (hl : l.length <= 1000) (hm : m.length <= 1000) (hb : bb = true ↔ ∀ x ∈ l, x ∈ m) :
  Calls Tryz.prog 64 ⟨[.slice A l.length ca, .slice B m.length cb]⟩ w fun e w' => e = .returned (.bool bb) /\ Below w.heap.size w w' := by
 refine fEn Tryz.func64 rfl Tryz.ntmps64 rfl rfl (sWn w) ?_
 repeat (first|refine lVa rfl rfl (by first|exact pEv rfl|fail) ?_|refine lNi ?_|refine cRg ?_|refine cSq ?_|refine xTh ?_|refine cBl ?_|fail)
 refine c_loop (ι := Nat) (fun i => i <= l.length /\ ∀ j x, j < i -> l[j]? = some x -> x ∈ m) (fun i => [(0, .slice A l.length ca), (1, .slice B m.length cb), (5, .int .i64 i)]) (fun _ => []) (fun i => l.length - i) 0 ⟨Nat.zero_le _, fun j x h => absurd h (Nat.not_lt_zero _)⟩ (by repeat (first|exact .nil|refine .cons rfl (by first|rfl|(congr 1; done)|exact congrArg _ (by omega)|(simp; done)) ?_)) (by repeat (first|exact .nil|refine .keep (by first|rfl|assumption) ?_|refine .drop ?_|exact MSub.refl _)) ?_
 rintro i ⟨hi, hF⟩
 by_cases hlt : i < l.length
 ·obtain ⟨x, hx⟩ : ∃ x, l[i]? = some x := ⟨_, List.getElem?_eq_getElem hlt⟩
  obtain ⟨bA, oA, rfl, hcA⟩ := hA i (inE x) (by rw [List.getElem?_map, hx]; rfl)
  have eA := ext_of hcA
  rw [Nat.mul_one] at eA
  repeat (first|refine lVa rfl rfl (by first|exact pEv rfl|exact vL0 rfl (by assumption) rfl (by rfl)|exact v_index rfl rfl rfl rfl (by omega) (by omega) (by with_reducible first|exact idx2 _ _|fail)|fail) ?_|refine lNi ?_|refine cRg ?_|refine cSq ?_|refine xTh ?_|refine c_dec_t rfl (by first|omega|fail) ?_|refine cBl ?_|refine cSk ?_|fail)
  refine r_call rfl rfl rfl (fun W hW => has69_calls B cb m x W (hB.sat hW) (by omega)) ?_
  by_cases hxm : x ∈ m
  ·rw [decide_eq_true hxm]
   repeat (first|refine lVa rfl rfl (by first|exact v_add rfl rfl (by omega) (by omega)|exact pEv rfl|fail) ?_|refine lNi ?_|refine cRg ?_|refine xTh ?_|refine c_false rfl ?_|refine cSk ?_|refine x_block ?_|fail)
   refine x_back (i + 1) ⟨hlt, fun j y hj hy => ?_⟩ (by omega) (by repeat (first|exact .nil|refine .cons rfl (by first|rfl|(congr 1; done)|exact congrArg _ (by omega)|(simp; done)) ?_)) (by repeat (first|exact .nil|refine .keep (by first|rfl|assumption) ?_|refine .drop ?_|exact MSub.refl _))
   by_cases hji : j < i
   ·exact hF j y hji hy
   ·have e : j = i := by omega
    subst e
    rw [hx] at hy; cases hy; exact hxm
  ·have hno : bb = false := by
    cases bb with
    | false => rfl
    | true => exact absurd (hb.1 rfl x (List.mem_of_getElem? hx)) hxm
   rw [decide_eq_false hxm]
   repeat (first|refine lVa rfl rfl (by first|exact pEv rfl|fail) ?_|refine lNi ?_|refine cRg ?_|refine cSq ?_|refine xTh ?_|refine c_true rfl ?_|refine c_ret ?_|refine xTr ?_|refine xBr ?_|fail)
   exact x_ret rfl rfl (by repeat constructor) rfl (fun W hW => ⟨by rw [hno], hW.below⟩)
 ·have hie : i = l.length := by omega
  have hyes : bb = true := hb.2 fun x hx => by
   obtain ⟨j, hj⟩ := List.getElem?_of_mem hx
   exact hF j x (by have := (List.getElem?_eq_some_iff.1 hj).1; omega) hj
  repeat (first|refine lVa rfl rfl (by first|exact pEv rfl|fail) ?_|refine lNi ?_|refine cRg ?_|refine cSq ?_|refine xTh ?_|refine c_dec_f rfl (by first|omega|fail) ?_|refine c_ret ?_|refine c_exit ?_|refine xTe ?_|refine xBs ?_|fail)
  exact x_ret rfl rfl (by repeat constructor) rfl (fun W hW => ⟨by rw [hyes], hW.below⟩)
end R24
end Go.Proofs

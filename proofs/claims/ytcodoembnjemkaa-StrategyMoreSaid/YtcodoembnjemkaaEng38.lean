/- Sorting: the shelf's contract at the decisions. -/
import Derived.Test.YtcodoembnjemkaaSgBfs
import Derived.Shelf.SlSortCmp.WholeK
import Derived.WalkKit
import Derived.Lib.Hide
import Derived.Test.YtcodoembnjemkaaEng37
import Derived.Sort.Grow
set_option linter.unusedSectionVars false
set_option linter.unusedVariables false
set_option linter.unusedSimpArgs false
namespace Go.Proofs
open Go.RowKit Go.Kin Go.Kin.St Go.Kin.Ct Go.Kin.Sg Go.Shelf
namespace R24
def renS : Ren := ⟨fun i => if i = 6 then 76 else if i = 14 then 94 else if i = 15 then 95 else if i = 20 then 102 else if i = 21 then 103 else if i = 22 then 104 else if i = 23 then 105 else if i = 24 then 106 else if i = 25 then 107 else if i = 26 then 108 else if i = 27 then 109 else if i = 28 then 110 else if i = 29 then 111 else if i = 46 then 112 else if i = 47 then 113 else if i = 48 then 114 else if i = 49 then 115 else if i = 50 then 116 else if i = 57 then 117 else 0, fun i => if i = 0 then 0 else if i = 3 then 3 else if i = 4 then 4 else if i = 5 then 5 else if i = 9 then 9 else if i = 22 then 25 else if i = 24 then 57 else if i = 25 then 118 else if i = 39 then 155 else if i = 45 then 161 else if i = 46 then 162 else if i = 50 then 166 else if i = 53 then 169 else if i = 55 then 107 else if i = 66 then 171 else if i = 70 then 175 else if i = 76 then 177 else if i = 77 then 178 else 0, fun i => i⟩
def TyF (t sz : Nat) (z : Value) : Prop := (∀ w, (isAgg t).run Try.prog w = .ok false w) ∧ (∀ w, (Go.sizeOf t).run Try.prog w = .ok sz w) ∧ (∀ w, (zeroValue t).run Try.prog w = .ok z w)
theorem ty_facts {t : Nat} {d : TypeDesc} {sz : Nat} {z : Value} (hu : Try.prog.underlying t = some d) (hd : (match d with | .struct _ | .array .. => false | _ => true) = true) (hi : (Try.prog.info? t).map (fun i => (i.zero, i.size)) = some (some z, sz)) : TyF t sz z := by
  cases h : Try.prog.info? t with
  | none => rw [h] at hi; cases hi
  | some i =>
    rw [h] at hi
    simp only [Option.map_some, Option.some.injEq, Prod.mk.injEq] at hi
    obtain ⟨h1, h2⟩ := hi
    refine ⟨fun w => ?_, fun w => ?_, fun w => ?_⟩
    · simp only [isAgg, Sem.run_bind, run_und hu, Result.andThen_ok]
      cases d <;> first | rfl | cases hd
    · rw [run_size h, h2]
    · simp only [zeroValue, Sem.run_bind, run_info h, Result.andThen_ok, h1]; rfl
theorem sf0 : Try.prog.underlying 0 = some (TypeDesc.tuple #[]) := by kernel_rfl
theorem sg0 : TyF 0 1 (Value.tuple #[]) := ty_facts sf0 rfl (by kernel_rfl)
theorem sf3 : Try.prog.underlying 3 = some (TypeDesc.int IntKind.i64) := by kernel_rfl
theorem sg3 : TyF 3 1 (Value.int IntKind.i64 0) := ty_facts sf3 rfl (by kernel_rfl)
theorem sf4 : Try.prog.underlying 4 = some (TypeDesc.bool) := by kernel_rfl
theorem sg4 : TyF 4 1 (Value.bool false) := ty_facts sf4 rfl (by kernel_rfl)
theorem sf5 : Try.prog.underlying 5 = some (TypeDesc.int IntKind.u8) := by kernel_rfl
theorem sg5 : TyF 5 1 (Value.int IntKind.u8 0) := ty_facts sf5 rfl (by kernel_rfl)
theorem sf9 : Try.prog.underlying 9 = some (TypeDesc.string) := by kernel_rfl
theorem sg9 : TyF 9 1 (Value.string { data := #[] }) := ty_facts sf9 rfl (by kernel_rfl)
theorem sf22 : Try.prog.underlying 25 = some (TypeDesc.slice 57) := by kernel_rfl
theorem sg22 : TyF 25 1 (Value.slice none 0 0) := ty_facts sf22 rfl (by kernel_rfl)
theorem sf25 : Try.prog.underlying 118 = some (TypeDesc.func #[57, 57] #[3] false) := by kernel_rfl
theorem sg25 : TyF 118 1 (Value.nilFunc) := ty_facts sf25 rfl (by kernel_rfl)
theorem sf39 : Try.prog.underlying 155 = some (TypeDesc.int IntKind.u64) := by kernel_rfl
theorem sg39 : TyF 155 1 (Value.int IntKind.u64 0) := ty_facts sf39 rfl (by kernel_rfl)
theorem sf45 : Try.prog.underlying 161 = some (TypeDesc.int IntKind.i64) := by kernel_rfl
theorem sg45 : TyF 161 1 (Value.int IntKind.i64 0) := ty_facts sf45 rfl (by kernel_rfl)
theorem sf46 : Try.prog.underlying 162 = some (TypeDesc.tuple #[3, 161]) := by kernel_rfl
theorem sg46 : TyF 162 1 (Value.tuple #[Value.int IntKind.i64 0, Value.int IntKind.i64 0]) := ty_facts sf46 rfl (by kernel_rfl)
theorem sf50 : Try.prog.underlying 166 = some (TypeDesc.tuple #[3, 4]) := by kernel_rfl
theorem sg50 : TyF 166 1 (Value.tuple #[Value.int IntKind.i64 0, Value.bool false]) := ty_facts sf50 rfl (by kernel_rfl)
theorem sf53 : Try.prog.underlying 169 = some (TypeDesc.int IntKind.u32) := by kernel_rfl
theorem sg53 : TyF 169 1 (Value.int IntKind.u32 0) := ty_facts sf53 rfl (by kernel_rfl)
theorem sf55 : Try.prog.underlying 107 = some (TypeDesc.int IntKind.u64) := by kernel_rfl
theorem sg55 : TyF 107 1 (Value.int IntKind.u64 0) := ty_facts sf55 rfl (by kernel_rfl)
theorem sf66 : Try.prog.underlying 171 = some (TypeDesc.int IntKind.u64) := by kernel_rfl
theorem sg66 : TyF 171 1 (Value.int IntKind.u64 0) := ty_facts sf66 rfl (by kernel_rfl)
theorem sf70 : Try.prog.underlying 175 = some (TypeDesc.pointer 3) := by kernel_rfl
theorem sg70 : TyF 175 1 (Value.pointer none) := ty_facts sf70 rfl (by kernel_rfl)
theorem sf76 : Try.prog.underlying 177 = some (TypeDesc.pointer 171) := by kernel_rfl
theorem sg76 : TyF 177 1 (Value.pointer none) := ty_facts sf76 rfl (by kernel_rfl)
theorem sf77 : Try.prog.underlying 178 = some (TypeDesc.tuple #[3, 3]) := by kernel_rfl
theorem sg77 : TyF 178 1 (Value.tuple #[Value.int IntKind.i64 0, Value.int IntKind.i64 0]) := ty_facts sf77 rfl (by kernel_rfl)
theorem laySort : SlLaysF0.n6 Try.prog renS where
  mixed := by kernel_rfl
  f6 := ⟨"slices.SortFunc[[]kinesphere/api.Decision,kinesphere/api.Decision]", by decide, by kernel_rfl⟩
  f14 := ⟨"slices.pdqsortCmpFunc[kinesphere/api.Decision]", by decide, by kernel_rfl⟩
  f15 := by kernel_rfl
  f20 := ⟨"slices.insertionSortCmpFunc[kinesphere/api.Decision]", by decide, by kernel_rfl⟩
  f21 := ⟨"slices.heapSortCmpFunc[kinesphere/api.Decision]", by decide, by kernel_rfl⟩
  f22 := ⟨"slices.breakPatternsCmpFunc[kinesphere/api.Decision]", by decide, by kernel_rfl⟩
  f23 := ⟨"slices.choosePivotCmpFunc[kinesphere/api.Decision]", by decide, by kernel_rfl⟩
  f24 := ⟨"slices.reverseRangeCmpFunc[kinesphere/api.Decision]", by decide, by kernel_rfl⟩
  f25 := ⟨"slices.partialInsertionSortCmpFunc[kinesphere/api.Decision]", by decide, by kernel_rfl⟩
  f26 := ⟨"slices.partitionEqualCmpFunc[kinesphere/api.Decision]", by decide, by kernel_rfl⟩
  f27 := ⟨"slices.partitionCmpFunc[kinesphere/api.Decision]", by decide, by kernel_rfl⟩
  f28 := by kernel_rfl
  f29 := by kernel_rfl
  f46 := ⟨"slices.siftDownCmpFunc[kinesphere/api.Decision]", by decide, by kernel_rfl⟩
  f47 := by kernel_rfl
  f48 := by kernel_rfl
  f49 := ⟨"slices.medianAdjacentCmpFunc[kinesphere/api.Decision]", by decide, by kernel_rfl⟩
  f50 := ⟨"slices.medianCmpFunc[kinesphere/api.Decision]", by decide, by kernel_rfl⟩
  f57 := ⟨"slices.order2CmpFunc[kinesphere/api.Decision]", by decide, by kernel_rfl⟩
  t0 := sf0
  a0 := sg0.1
  z0 := sg0.2.1
  v0 := sg0.2.2
  t3 := sf3
  a3 := sg3.1
  z3 := sg3.2.1
  v3 := sg3.2.2
  t4 := sf4
  a4 := sg4.1
  z4 := sg4.2.1
  v4 := sg4.2.2
  t5 := sf5
  a5 := sg5.1
  z5 := sg5.2.1
  v5 := sg5.2.2
  t9 := sf9
  a9 := sg9.1
  z9 := sg9.2.1
  v9 := sg9.2.2
  t22 := sf22
  a22 := sg22.1
  z22 := sg22.2.1
  v22 := sg22.2.2
  t25 := sf25
  a25 := sg25.1
  z25 := sg25.2.1
  v25 := sg25.2.2
  t39 := sf39
  a39 := sg39.1
  z39 := sg39.2.1
  v39 := sg39.2.2
  t45 := sf45
  a45 := sg45.1
  z45 := sg45.2.1
  v45 := sg45.2.2
  t46 := sf46
  a46 := sg46.1
  z46 := sg46.2.1
  v46 := sg46.2.2
  t50 := sf50
  a50 := sg50.1
  z50 := sg50.2.1
  v50 := sg50.2.2
  t53 := sf53
  a53 := sg53.1
  z53 := sg53.2.1
  v53 := sg53.2.2
  t55 := sf55
  a55 := sg55.1
  z55 := sg55.2.1
  v55 := sg55.2.2
  t66 := sf66
  a66 := sg66.1
  z66 := sg66.2.1
  v66 := sg66.2.2
  t70 := sf70
  a70 := sg70.1
  z70 := sg70.2.1
  v70 := sg70.2.2
  t76 := sf76
  a76 := sg76.1
  z76 := sg76.2.1
  v76 := sg76.2.2
  t77 := sf77
  a77 := sg77.1
  z77 := sg77.2.1
  v77 := sg77.2.2
end R24
end Go.Proofs

set_option linter.unusedSectionVars false
set_option linter.unusedVariables false
set_option linter.unusedSimpArgs false
namespace Go.Proofs
open Go.RowKit Go.Kin Go.Kin.St Go.Kin.Ct Go.Kin.Sg
namespace R24
def cmpI (x y : Int) : Int := if x < y then -1 else if y < x then 1 else 0
def cmpL : List Int → List Int → Int
  | x :: a, y :: b => if x < y then -1 else if y < x then 1 else cmpL a b
  | _, _ => 0
theorem cmpL_same : ∀ (a : List Int), cmpL a a = 0
  | [] => rfl
  | x :: a => by rw [cmpL, if_neg (by omega), if_neg (by omega), cmpL_same a]
theorem cmpL_at : ∀ {a b : List Int} {k : Nat} {x y : Int}, (∀ i, i < k → a[i]? = b[i]?) → a[k]? = some x → b[k]? = some y → x ≠ y → cmpL a b = cmpI x y
  | u :: a, v :: b, 0, x, y, _, ha, hb, hne => by
    cases ha; cases hb
    unfold cmpI
    rw [cmpL]
    by_cases h1 : u < v
    · rw [if_pos h1, if_pos h1]
    · rw [if_neg h1, if_neg h1, if_pos (by omega), if_pos (by omega)]
  | u :: a, v :: b, k + 1, x, y, h, ha, hb, hne => by
    have h0 := h 0 (by omega)
    simp only [List.getElem?_cons_zero, Option.some.injEq] at h0
    subst h0
    rw [cmpL, if_neg (by omega), if_neg (by omega)]
    exact cmpL_at (k := k) (fun i hi => by simpa using h (i + 1) (by omega)) (by simpa using ha) (by simpa using hb) hne
theorem nan_any (x : Int) (w : World) : Calls Try.prog 101 #[.int .i64 x] w fun e w' => e = .returned (.bool false) ∧ w' = w := by
  go_enter Try.func101, Try.ntmps101
  go_wp2
  go_ret
  exact ⟨by simp, rfl⟩
theorem cmp89_any (x y : Int) (w : World) : Calls Try.prog 89 #[.int .i64 x, .int .i64 y] w fun e w' => e = .returned (.int .i64 (cmpI x y)) ∧ w' = w := by
  rcases Int.lt_trichotomy x y with h | h | h
  · have H : Hid (cmpI x y = -1) := Lib.hid (by simp [cmpI, h])
    go_enter Try.func89, Try.ntmps89
    go_wp2_with (go_at_call 101; refine (nan_any _ _).mono ?_; rintro e w' ⟨rfl, rfl⟩)
    go_ret
    exact ⟨by rw [H.out]; rfl, rfl⟩
  · have H : Hid (cmpI x y = 0) := Lib.hid (by simp [cmpI, h])
    subst h
    go_enter Try.func89, Try.ntmps89
    go_wp2_with (go_at_call 101; refine (nan_any _ _).mono ?_; rintro e w' ⟨rfl, rfl⟩)
    go_ret
    exact ⟨by rw [H.out]; rfl, rfl⟩
  · have H : Hid (cmpI x y = 1) := Lib.hid (by unfold cmpI; rw [if_neg (by omega), if_pos h])
    have h' : ¬ x < y := by omega
    go_enter Try.func89, Try.ntmps89
    go_wp2_with (go_at_call 101; refine (nan_any _ _).mono ?_; rintro e w' ⟨rfl, rfl⟩)
    go_ret
    exact ⟨by rw [H.out]; rfl, rfl⟩
end R24
end Go.Proofs

set_option linter.unusedSectionVars false
set_option linter.unusedVariables false
set_option linter.unusedSimpArgs false
namespace Go.Proofs
open Go.RowKit Go.Kin Go.Kin.St Go.Kin.Ct Go.Kin.Sg
namespace R24
set_option maxHeartbeats 4000000 in
theorem cmp90_any (ba oa ca bb ob cb : Nat) (a b : List Int) (w : World) (hl : a.length = b.length) (hn : a.length ≤ 1000) (ha : ∀ k x, a[k]? = some x → w.cell? ⟨ba, oa + k, none⟩ = some (.int .i64 x)) (hb : ∀ k x, b[k]? = some x → w.cell? ⟨bb, ob + k, none⟩ = some (.int .i64 x)) :
    Calls Try.prog 90 #[.slice (some ⟨ba, oa, none⟩) a.length ca, .slice (some ⟨bb, ob, none⟩) b.length cb] w fun e w' => e = .returned (.int .i64 (cmpL a b)) ∧ w' = w := by
  have HA := Lib.hid ha; clear ha
  have HB := Lib.hid hb; clear hb
  obtain ⟨n, hn2⟩ : ∃ n, a.length = n := ⟨_, rfl⟩
  have hbn : b.length = n := by omega
  have HL := Lib.hid hn2
  have HM := Lib.hid hbn
  rw [hn2] at hn
  rw [hn2, hbn]
  clear hl hn2 hbn
  go_enter Try.func90, Try.ntmps90
  go_wp2
  go_loop [11] (fun i => ∃ k : Nat, k ≤ n ∧ i = .int .i64 k ∧ Hid (∀ j, j < k → a[j]? = b[j]?)) (fun i => n - (intOf i).toNat)
  case atStart => exact ⟨0, Nat.zero_le _, rfl, Lib.hid (fun j hj => by omega)⟩
  case round =>
    obtain ⟨k, hk, rfl, HE⟩ := hrel
    by_cases hlt : k < n
    · obtain ⟨x, hx⟩ : ∃ x, a[k]? = some x := ⟨_, List.getElem?_eq_getElem (by rw [HL.out]; exact hlt)⟩
      obtain ⟨y, hy⟩ : ∃ y, b[k]? = some y := ⟨_, List.getElem?_eq_getElem (by rw [HM.out]; exact hlt)⟩
      have hca : w.cell? ⟨ba, oa + k, none⟩ = some (.int .i64 x) := HA.out k x hx
      have hcb : w.cell? ⟨bb, ob + k, none⟩ = some (.int .i64 y) := HB.out k y hy
      have hxy := Lib.hid hx; have hyy := Lib.hid hy
      clear hx hy
      by_cases hne : x = y
      · have H0 : Hid (cmpI x y = 0) := Lib.hid (by unfold cmpI; rw [if_neg (by omega), if_neg (by omega)])
        have hne' := Lib.hid hne
        clear hne
        go_wp2_with (go_at_call 89; refine (cmp89_any _ _ _).mono ?_; rintro e w' ⟨rfl, rfl⟩; rw [H0.out])
        go_round
        case rel =>
          refine ⟨k + 1, by omega, by go_num, Lib.hid (fun j hj => ?_)⟩
          by_cases hjk : j = k
          · subst hjk; rw [hxy.out, hyy.out, hne'.out]
          · exact HE.out j (by omega)
        case measure => simp [intOf]; omega
      · have H0 : Hid (cmpI x y ≠ 0) := Lib.hid (by unfold cmpI; split; omega; split <;> omega)
        have H1 : Hid (cmpL a b = cmpI x y) := Lib.hid (cmpL_at HE.out hxy.out hyy.out hne)
        obtain ⟨r, hr⟩ : ∃ r, cmpI x y = r := ⟨_, rfl⟩
        have hr' := Lib.hid hr
        have h0' : r ≠ 0 := by rw [← hr]; exact H0.out
        clear hne hr
        go_wp2_with (go_at_call 89; refine (cmp89_any _ _ _).mono ?_; rintro e w' ⟨rfl, rfl⟩; rw [hr'.out])
        go_ret
        exact ⟨by rw [H1.out, hr'.out]; rfl, rfl⟩
    · have hkn : k = n := by omega
      subst hkn
      have HS : Hid (cmpL a b = 0) := Lib.hid (by
        have : a = b := List.ext_getElem? fun j => by
          by_cases hj : j < k
          · exact HE.out j hj
          · rw [List.getElem?_eq_none (by rw [HL.out]; omega), List.getElem?_eq_none (by rw [HM.out]; omega)]
        rw [this]; exact cmpL_same b)
      go_wp2
      go_ret
      exact ⟨by rw [HS.out]; rfl, rfl⟩
/-- the first that is not 0 -/
def or2 (x y : Int) : Int := if x ≠ 0 then x else y
set_option maxHeartbeats 4000000 in
theorem or88_any (b : Nat) (x y : Int) (w : World) (h0 : w.cell? ⟨b, 0, none⟩ = some (.int .i64 x)) (h1 : w.cell? ⟨b, 1, none⟩ = some (.int .i64 y)) :
    Calls Try.prog 88 #[.slice (some ⟨b, 0, none⟩) 2 2] w fun e w' => e = .returned (.int .i64 (or2 x y)) ∧ w' = w := by
  have H0 := Lib.hid h0
  have H1 := Lib.hid h1
  clear h0 h1
  go_enter Try.func88, Try.ntmps88
  go_wp2
  go_loop [8] (fun i => (i = .int .i64 0) ∨ (i = .int .i64 1 ∧ Hid (x = 0)) ∨ (i = .int .i64 2 ∧ Hid (x = 0 ∧ y = 0))) (fun i => 2 - (intOf i).toNat)
  case atStart => exact .inl rfl
  case round =>
    rcases hrel with rfl | ⟨rfl, HX⟩ | ⟨rfl, HX⟩
    · have hc := H0.out
      by_cases hx : x = 0
      · have hx' := Lib.hid hx
        clear hx
        rw [hx'.out] at hc
        go_wp2
        go_round
        case rel => exact .inr (.inl ⟨rfl, hx'⟩)
        case measure => simp [intOf]
      · have e : Hid (or2 x y = x) := Lib.hid (if_pos hx)
        go_wp2
        go_ret
        exact ⟨by rw [e.out]; rfl, rfl⟩
    · have hc := H1.out
      by_cases hy : y = 0
      · have hy' := Lib.hid hy
        clear hy
        rw [hy'.out] at hc
        go_wp2
        go_round
        case rel => exact .inr (.inr ⟨rfl, Lib.hid ⟨HX.out, hy'.out⟩⟩)
        case measure => simp [intOf]
      · have e : Hid (or2 x y = y) := Lib.hid (if_neg (by rw [HX.out]; simp))
        go_wp2
        go_ret
        exact ⟨by rw [e.out]; rfl, rfl⟩
    · have e : Hid (or2 x y = 0) := Lib.hid (by rw [HX.out.1, HX.out.2]; rfl)
      go_wp2
      go_ret
      exact ⟨by rw [e.out]; rfl, rfl⟩
end R24
end Go.Proofs

set_option linter.unusedSectionVars false
set_option linter.unusedVariables false
set_option linter.unusedSimpArgs false
namespace Go
open Go.RowKit Go.Sort
namespace Kin
section
variable {P : Program} {N : Nat} {Q : Exit → Act → World → Prop} {env : List (Nat × Value)} {L l : List Oper} {W : World}
/-- the world is W -/
structure RunC1 (P : Program) (N : Nat) (code : Code) (Q : Exit → Act → World → Prop) (env : List (Nat × Value)) (W : World) : Prop where
  run : ∀ a, SatA N [] env a → code.wpIn Fence.wide 0 P Q a W
structure RunL1 (P : Program) (N : Nat) (L l : List Oper) (Q : Exit → Act → World → Prop) (env : List (Nat × Value)) (W : World) : Prop where
  run : ∀ a, SatA N [] env a → wpListIn Fence.wide 0 P L.toArray Q l a W
structure RunX1 (N : Nat) (Q : Exit → Act → World → Prop) (e : Exit) (env : List (Nat × Value)) (W : World) : Prop where
  run : ∀ a, SatA N [] env a → Q e a W
/-- a world's context: all but some blocks -/
abbrev cx1 (W : World) (ks : List Nat) : Cx := ⟨Fence.wide, 0, [], W, allBut W ks, noJ⟩
theorem c1_seq {x y : Code} (k : RunC1 P N x (Exit.then (y.wpIn Fence.wide 0 P Q) Q) env W) : RunC1 P N (.seq x y) Q env W := .mk fun a ha => wpIn_seq (k.run a ha)
theorem c1_region {id : Nat} (k : RunL1 P N l l Q env W) : RunC1 P N (.region id l.toArray false) Q env W := .mk fun a ha => wpIn_region_lit (k.run a ha)
theorem c1_ret (k : RunX1 N Q .ret env W) : RunC1 P N .ret Q env W := .mk fun a ha => wpIn_ret (k.run a ha)
theorem x1_then {y : Code} {Q' : Exit → Act → World → Prop} (k : RunC1 P N y Q env W) : RunX1 N (Exit.then (y.wpIn Fence.wide 0 P Q) Q') .normal env W := .mk fun a ha => k.run a ha
theorem l1_nil (k : RunX1 N Q .normal env W) : RunL1 P N L [] Q env W := .mk fun a ha => wpListIn_nil (k.run a ha)
theorem l1_run {o : Oper} (hw : wantB L env o.guard = some true)
    (h : ∀ a, SatA N [] env a → o.uponIn Fence.wide 0 P a (wpListIn Fence.wide 0 P L.toArray Q l) Q ((o.semAt Fence.wide.round a.eval).run P W)) : RunL1 P N L (o :: l) Q env W := .mk fun a ha => by
  show if _ then _ else _
  rw [if_pos (wanted_of hw ha)]
  exact ⟨fun f _ => Wide.fn Fence.wide f, h a ha⟩
theorem l1_val {op : Op} {d : Nat} {ty : TypeId} {pos : String} {af : Array Edge} {g : Option (Nat × Bool)} {v : Value} (ks : List Nat) {mem : List (Nat × Obj)} (hs : SatW W (allBut W ks) noJ mem W) (hw : wantB L env g = some true) (hd : Nat.blt d N = true)
    (hv : OpVal P N (cx1 W ks) env mem ⟨some d, op, ty, pos, af, g⟩ v) (k : RunL1 P N L l Q ((d, v) :: env) W) : RunL1 P N L (⟨some d, op, ty, pos, af, g⟩ :: l) Q env W :=
  l1_run hw fun a ha => by
    rw [semAt_plain _ hv.1, hv.2 a W ha hs]
    exact k.run _ (ha.put hd v)
theorem l1_new {op : Op} {d : Nat} {ty : TypeId} {pos : String} {af : Array Edge} {g : Option (Nat × Bool)} {V : Nat → Value} {ob : Obj} {c : Cx} (hc : c.ds = []) (hw : wantB L env g = some true) (hd : Nat.blt d N = true) (hv : OpNew P N c env ⟨some d, op, ty, pos, af, g⟩ V ob)
    (k : RunL1 P N L l Q ((d, V W.heap.size) :: env) (W.alloc ob)) : RunL1 P N L (⟨some d, op, ty, pos, af, g⟩ :: l) Q env W :=
  l1_run hw fun a ha => by
    rw [semAt_plain _ hv.1, hv.2 a W (by rw [hc]; exact ha)]
    exact k.run _ (ha.put hd _)
theorem fun_enter1 {f : FuncId} {fn : Func} {body : Code} {args : List Value} {R : Ending → World → Prop} (hf : P.funcs[f]? = some fn) (hb : fn.body = some body) (hN : fn.ntmps = N)
    (hl : Nat.ble args.length N = true) (he : enumK 0 args some = some env) (k : RunC1 P N body (bodyPostK P fn R) env W) : Calls P f ⟨args⟩ W R := by
  subst hN
  refine calls_of_wpK hf hb (wpIn_wide (n := 0).1 (k.run _ ?_))
  obtain ⟨e, h1, h2⟩ := enumK_eq he
  simp only [Option.some.injEq] at h1
  subst h1
  have hl2 := Nat.le_of_ble_eq_true hl
  refine ⟨?_, rfl, fun s v hs => ?_⟩
  · simp only [Array.size_append, Array.size_replicate, List.size_toArray]; omega
  · obtain ⟨_, h3⟩ := h2 s v hs
    simp only [Nat.sub_zero] at h3
    have hlt := (List.getElem?_eq_some_iff.1 h3).1
    rw [Array.getElem?_append_left (by simpa using hlt)]
    simpa using h3
theorem x1_ret {tt : List (TypeId × TI)} [T : TT P tt] {fn : Func} {rs : List ResultVar} {vs : List Value} {v : Value} {R : Ending → World → Prop} (ks : List Nat) {mem : List (Nat × Obj)} (hs : SatW W (allBut W ks) noJ mem W) (hr : fn.results = ⟨rs⟩) (h : Res tt env mem rs vs) (hv : tupO vs = some v)
    (hR : R (.returned v) W) : RunX1 N (bodyPostK P fn R) .ret env W := .mk fun a ha => by
  obtain rfl := tupO_eq hv
  exact bodyPostK_ret0 ha.defers (results_run hr h ha hs) hR
/-! ## A region that draws its order: what only reads, and then the rest in order -/
/-- what only reads, whatever has been drawn -/
structure RunH1 (P : Program) (N : Nat) (W : World) (L : List Oper) (n : Nat) (l : List Oper) (Q : Exit → Act → World → Prop) (env : List (Nat × Value)) : Prop where
  run : ∀ a, SatA N [] env a → wpQuiet P L.toArray (fun X => ∃ q, X = W.drewN q) (fun a' => ∀ X, (∃ q, X = W.drewN q) → wpAnyIn Fence.wide 0 P .any L.toArray Q (L.length - n) (tailArr L.length n) a' X) l a
structure RunA1 (P : Program) (N : Nat) (W : World) (L : List Oper) (Q : Exit → Act → World → Prop) (f : Nat) (listed : Array Bool) (env : List (Nat × Value)) : Prop where
  run : ∀ a, SatA N [] env a → wpAnyIn Fence.wide 0 P .any L.toArray Q f listed a W
theorem drewN_drew (W : World) : { W with drawn := W.drawn + 1 } = W.drewN 1 := rfl
theorem satW_drewN {ks : List Nat} {mem : List (Nat × Obj)} (h : SatW W (allBut W ks) noJ mem W) (q : Nat) : SatW W (allBut W ks) noJ mem (W.drewN q) :=
  ⟨Same.drewN _ _ _, h.dom, h.nodup, fun p hp => h.own p hp, h.closed, trivial⟩
theorem h1_val {n : Nat} {op : Op} {d : Nat} {ty : TypeId} {pos : String} {af : Array Edge} {g : Option (Nat × Bool)} {v : Value} {ks : List Nat} {mem : List (Nat × Obj)} (hs : SatW W (allBut W ks) noJ mem W) (hw : wantB L env g = some true) (hd : Nat.blt d N = true)
    (hv : OpVal P N (cx1 W ks) env mem ⟨some d, op, ty, pos, af, g⟩ v) (k : RunH1 P N W L n l Q ((d, v) :: env)) : RunH1 P N W L n (⟨some d, op, ty, pos, af, g⟩ :: l) Q env := .mk fun a ha => by
  show if _ then _ else _
  rw [if_pos (wanted_of (o := ⟨some d, op, ty, pos, af, g⟩) hw ha)]
  refine ⟨v, ?_, k.run _ (ha.put hd v)⟩
  rintro X ⟨q, rfl⟩
  unfold Oper.quietAt
  rw [hv.2 a _ ha (satW_drewN hs q)]
  exact ⟨rfl, rfl⟩
theorem h1_call {n : Nat} {f : FuncId} [Ent P f] {d : Nat} {args : List Operand} {ats : Array TypeId} {vs : List Value} {ty : TypeId} {pos : String} {af : Array Edge} {g : Option (Nat × Bool)} {v : Value} (hw : wantB L env g = some true) (hd : Nat.blt d N = true) (ha : evOps env args some = some vs)
    (hc : ∀ q, Calls P f ⟨vs⟩ (W.drewN q) fun e W' => e = .returned v ∧ W' = W.drewN q) (k : RunH1 P N W L n l Q ((d, v) :: env)) : RunH1 P N W L n (⟨some d, .call ⟨.value (.func f), ⟨args⟩, ats⟩, ty, pos, af, g⟩ :: l) Q env := .mk fun a hA => by
  show if _ then _ else _
  rw [if_pos (wanted_of (o := ⟨some d, .call ⟨.value (.func f), ⟨args⟩, ats⟩, ty, pos, af, g⟩) hw hA)]
  have h1 := hA.evals ha
  simp only [Option.some.injEq] at h1
  refine ⟨v, ?_, k.run _ (hA.put hd v)⟩
  rintro X ⟨q, rfl⟩
  unfold Oper.quietAt
  rw [p_call, h1]
  exact ⟨rfl, (hc q).mono fun _ W' ⟨h2, h3⟩ => ⟨h2, q, h3⟩⟩
theorem h1_nil {n : Nat} (k : ∀ q, RunA1 P N (W.drewN q) L Q (L.length - n) (tailArr L.length n) env) : RunH1 P N W L n [] Q env := .mk fun a ha => wpQuiet_nil fun X hX => by
  obtain ⟨q, rfl⟩ := hX
  exact (k q).run a ha
theorem a1_done {f : Nat} {listed : Array Bool} (hr : Region.ready .any L.toArray listed = []) (k : RunX1 N Q .normal env W) : RunA1 P N W L Q f listed env := .mk fun a ha => wpAnyIn_done hr (k.run a ha) f
theorem a1_one {f i : Nat} {listed : Array Bool} (hr : Region.ready .any L.toArray listed = [i]) (k : ∀ a, SatA N [] env a → wpOpIn Fence.wide 0 P L.toArray Q i (wpAnyIn Fence.wide 0 P .any L.toArray Q f (listed.setIfInBounds i true)) a W) : RunA1 P N W L Q (f + 1) listed env :=
  .mk fun a ha => wpAnyIn_all hr (by simp) fun j hj => by rw [List.mem_singleton.1 hj]; exact k a ha
theorem o1_new {f i : Nat} {listed listed' : Array Bool} {op : Op} {d : Nat} {ty : TypeId} {pos : String} {af : Array Edge} {g : Option (Nat × Bool)} {V : Nat → Value} {ob : Obj} {c : Cx} (hc : c.ds = []) (hi : nth L i = some ⟨some d, op, ty, pos, af, g⟩) (hw : wantB L env g = some true) (hl : listed.setIfInBounds i true = listed') (hd : Nat.blt d N = true)
    (hv : OpNew P N c env ⟨some d, op, ty, pos, af, g⟩ V ob) (k : RunA1 P N (W.alloc ob) L Q f listed' ((d, V W.heap.size) :: env)) : ∀ a, SatA N [] env a → wpOpIn Fence.wide 0 P L.toArray Q i (wpAnyIn Fence.wide 0 P .any L.toArray Q f (listed.setIfInBounds i true)) a W := fun a ha => by
  subst hl
  unfold wpOpIn
  rw [nth_eq] at hi
  simp only [List.getElem?_toArray, hi, wanted_of (o := ⟨some d, op, ty, pos, af, g⟩) hw ha, if_true]
  refine ⟨fun f _ => Wide.fn Fence.wide f, ?_⟩
  rw [semAt_plain _ hv.1, hv.2 a W (by rw [hc]; exact ha)]
  exact k.run _ (ha.put hd _)
theorem o1_val {f i : Nat} {listed listed' : Array Bool} {op : Op} {d : Nat} {ty : TypeId} {pos : String} {af : Array Edge} {g : Option (Nat × Bool)} {v : Value} {ks : List Nat} {mem : List (Nat × Obj)} (hs : SatW W (allBut W ks) noJ mem W) (hi : nth L i = some ⟨some d, op, ty, pos, af, g⟩) (hw : wantB L env g = some true) (hl : listed.setIfInBounds i true = listed') (hd : Nat.blt d N = true)
    (hv : OpVal P N (cx1 W ks) env mem ⟨some d, op, ty, pos, af, g⟩ v) (k : RunA1 P N W L Q f listed' ((d, v) :: env)) : ∀ a, SatA N [] env a → wpOpIn Fence.wide 0 P L.toArray Q i (wpAnyIn Fence.wide 0 P .any L.toArray Q f (listed.setIfInBounds i true)) a W := fun a ha => by
  subst hl
  unfold wpOpIn
  rw [nth_eq] at hi
  simp only [List.getElem?_toArray, hi, wanted_of (o := ⟨some d, op, ty, pos, af, g⟩) hw ha, if_true]
  refine ⟨fun f _ => Wide.fn Fence.wide f, ?_⟩
  rw [semAt_plain _ hv.1, hv.2 a W ha hs]
  exact k.run _ (ha.put hd v)
theorem o1_call {f i : Nat} {listed listed' : Array Bool} {fi : FuncId} [Ent P fi] {d : Nat} {args : List Operand} {ats : Array TypeId} {vs : List Value} {ty : TypeId} {pos : String} {af : Array Edge} {g : Option (Nat × Bool)} {v : Value} (hi : nth L i = some ⟨some d, .call ⟨.value (.func fi), ⟨args⟩, ats⟩, ty, pos, af, g⟩) (hw : wantB L env g = some true) (hl : listed.setIfInBounds i true = listed') (hd : Nat.blt d N = true) (ha : evOps env args some = some vs)
    (hc : Calls P fi ⟨vs⟩ W fun e W' => e = .returned v ∧ W' = W) (k : RunA1 P N W L Q f listed' ((d, v) :: env)) : ∀ a, SatA N [] env a → wpOpIn Fence.wide 0 P L.toArray Q i (wpAnyIn Fence.wide 0 P .any L.toArray Q f (listed.setIfInBounds i true)) a W := fun a hA => by
  subst hl
  unfold wpOpIn
  rw [nth_eq] at hi
  simp only [List.getElem?_toArray, hi, wanted_of (o := ⟨some d, .call ⟨.value (.func fi), ⟨args⟩, ats⟩, ty, pos, af, g⟩) hw hA, if_true]
  refine ⟨fun f _ => Wide.fn Fence.wide f, ?_⟩
  have h1 := hA.evals ha
  simp only [Option.some.injEq] at h1
  rw [semAt_plain _ rfl, p_call, h1]
  refine ⟨Wide.depth Fence.wide 0, (Wide.calls (F := Fence.wide) hc).mono ?_⟩
  rintro e W' ⟨rfl, rfl⟩
  exact k.run _ (hA.put hd v)
end
end Kin
end Go

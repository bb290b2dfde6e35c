/- Identity: what codes are; Near, walked. -/
import Derived.Test.YtajnkdgbpffinaaGreatIdF
import Derived.Test.YtajnkdgbpffinaaGreatRmB
import Derived.Shelf.Bits.Mul64
set_option linter.unusedSectionVars false
set_option linter.unusedVariables false
set_option linter.unusedSimpArgs false
namespace Go.Proofs
open Go.RowKit Go.Kin Go.Kin.Cl
namespace R41
def bare (s : Sg) : Sg := ⟨0, s.role, 0, 0, s.kind, s.side, s.dir, s.level, s.size, s.wth, 0, 0, 0, 0⟩
theorem okS_bare (s : Sg) : okS (bare s) = okS s := rfl
theorem unp_code {s : Sg} (h : okS s = true) : unp (codeV s) = bare s := by
 obtain ⟨h1, h2, h3, h4, h5, h6, h7⟩ := okS_iff.1 h
 obtain ⟨c, hc⟩ : ∃ c, codeV s = c := ⟨_, rfl⟩
 rw [hc]
 unfold codeV at hc
 obtain ⟨c1, e1⟩ : ∃ x, s.role * 16 + s.kind = x := ⟨_, rfl⟩
 rw [e1] at hc
 obtain ⟨c2, e2⟩ : ∃ x, c1 * 4 + s.side = x := ⟨_, rfl⟩
 rw [e2] at hc
 obtain ⟨c3, e3⟩ : ∃ x, c2 * 16 + s.dir = x := ⟨_, rfl⟩
 rw [e3] at hc
 obtain ⟨c4, e4⟩ : ∃ x, c3 * 4 + s.level = x := ⟨_, rfl⟩
 rw [e4] at hc
 obtain ⟨c5, e5⟩ : ∃ x, c4 * 256 + s.size = x := ⟨_, rfl⟩
 rw [e5] at hc
 have d1 : c / 128 = c5 := by omega
 have d2 : c5 / 256 = c4 := by omega
 have d3 : c4 / 4 = c3 := by omega
 have d4 : c3 / 16 = c2 := by omega
 have d5 : c2 / 4 = c1 := by omega
 have d6 : c1 / 16 = s.role := by omega
 have m1 : c % 128 = s.wth := by omega
 have m2 : c5 % 256 = s.size := by omega
 have m3 : c4 % 4 = s.level := by omega
 have m4 : c3 % 16 = s.dir := by omega
 have m5 : c2 % 4 = s.side := by omega
 have m6 : c1 % 16 = s.kind := by omega
 unfold unp bare
 rw [d1, d2, d3, d4, d5, d6, m1, m2, m3, m4, m5, m6]
theorem codeV_bd {s : Sg} (h : okS s = true) : 0 < codeV s /\ codeV s < 8589934592 := by
 have h' := (okS_bare s).trans h
 have := unp_range (c := codeV s) (by rw [unp_code h]; exact h')
 obtain ⟨h1, h2, h3, h4, h5, h6, h7⟩ := okS_iff.1 h
 refine ⟨?_, this.2⟩
 unfold codeV
 omega
theorem ac_low : ∀ (n : Nat) (a b : List Int), a.length + b.length <= n -> 2 * ((a.length : Int) - b.length) <= ac a b
 | _, [], b, _ => by rw [ac_nil_left]; simp only [List.length_nil]; omega
 | _, x :: a, [], _ => by rw [ac_nil_right]; simp only [List.length_nil]; omega
 | 0, x :: a, y :: b, h => by simp at h
 | n + 1, x :: a, y :: b, h => by
  simp only [List.length_cons] at h
  have h1 := ac_low n a b (by omega)
  have h2 := ac_low n a (y :: b) (by simp only [List.length_cons]; omega)
  have h3 := ac_low n (x :: a) b (by simp only [List.length_cons]; omega)
  have h4 := bes_bd x y
  rw [ac_cons]
  simp only [List.length_cons] at h2 h3 ⊢
  omega
theorem ac_left (x : Int) (a b : List Int) : ac (x :: a) b <= 2 + ac a b := by
 cases b with
 | nil => rw [ac_nil_right, ac_nil_right, List.length_cons]; omega
 | cons y b => rw [ac_cons]; omega
theorem ac_both (x : Int) (a b : List Int) : ac (x :: a) (x :: b) <= ac a b := by
 have h := bes_self x
 rw [ac_cons, h]; omega
theorem ac_up {a b : List Int} (h : b.Sublist a) : ac a b <= 2 * ((a.length : Int) - b.length) := by
 induction h with
 | slnil => rw [ac_nil_left]; simp
 | cons x h ih =>
  rename_i l1 l2
  have := ac_left x l2 l1
  have h1 := h.length_le
  simp only [List.length_cons]
  omega
 | cons_cons x h ih =>
  rename_i l1 l2
  have := ac_both x l2 l1
  simp only [List.length_cons]
  omega
/-- a list and what is left of it when some of it is left out: 2 for each -/
theorem ac_sub {a b : List Int} (h : b.Sublist a) : ac a b = 2 * ((a.length : Int) - b.length) :=
 Int.le_antisymm (ac_up h) (ac_low _ a b (Nat.le_refl _))
theorem essC_bd {l : List Sg} (h : ∀ s ∈ l, formB s = true) : ∀ c ∈ essC l, isC c = true /\ 0 < c /\ c < 8589934592 := fun c hc => by
 obtain ⟨s, hs, rfl⟩ := List.mem_map.1 hc
 have hok := formB_okS (essL_form h s hs)
 refine ⟨isC_t ?_, codeV_bd hok⟩
 rw [unp_code hok, okS_bare]; exact hok
theorem essC_len (l : List Sg) : (essC l).length <= l.length := by
 unfold essC essL
 rw [List.length_map, (sortS_perm _).length_eq]
 exact List.length_filter_le _ _
theorem essC_pr {l m : List Sg} (hl : ∀ s ∈ l, formB s = true) (hm : ∀ s ∈ m, formB s = true) (h1 : l.length <= 64) (h2 : m.length <= 64) : prR (essC l) (essC m) = 0 := by
 have a1 := essC_len l
 have a2 := essC_len m
 unfold prR
 rw [if_neg (by omega), if_pos ⟨List.all_eq_true.2 fun c hc => (essC_bd hl c hc).1, List.all_eq_true.2 fun c hc => (essC_bd hm c hc).1⟩]
theorem simE_calls (lx ly : List Sg) (A B : Option Addr) (ca cb : Nat) (limit : Int) (w : World) (hlim : 0 <= limit /\ limit <= 1000) (hx : ∀ s ∈ lx, formB s = true) (hy : ∀ s ∈ ly, formB s = true) (h1 : lx.length <= 64) (h2 : ly.length <= 64)
  (hA : Kin.At w A 1 ((essC lx).map inE)) (hB : Kin.At w B 1 ((essC ly).map inE)) :
  Calls Tryz.prog 33 ⟨[.slice A (essC lx).length ca, .slice B (essC ly).length cb, .int .i64 limit]⟩ w fun e w' => e = .returned (.bool (simB (essC lx) (essC ly) limit)) /\ Under w.heap.size w w' := by
 have a1 := essC_len lx
 have a2 := essC_len ly
 have h3 := ac_bd (essC lx) (essC ly)
 exact similar33_calls _ _ A B ca cb limit w (by omega) (by omega) (fun c hc => by have := essC_bd hx c hc; omega) (fun c hc => by have := essC_bd hy c hc; omega) hA hB (essC_pr hx hy h1 h2) ⟨h3.1, by omega⟩ hlim
end R41
end Go.Proofs

set_option maxRecDepth 100000
set_option maxHeartbeats 400000000
namespace Go.Proofs
open Go.RowKit Go.Kin Go.Kin.Cl
namespace R41
theorem ess_two {x y : Ed} {X : Option Addr} {rows : List EsR} {w : World} (h : EssR [x, y] X rows w) : ∃ (e1 e2 : EsR) (b o : Nat) (A1 A2 : Option Addr) (c1 c2 : Nat), rows = [e1, e2] /\ X = some ⟨b, o, none⟩ /\ Ext w (base w) b o [.slice A1 (essC x.l).length c1] /\ Ext w (base w) b (o + 1) [.slice A2 (essC y.l).length c2] /\ Kin.At w A1 1 ((essC x.l).map inE) /\ Kin.At w A2 1 ((essC y.l).map inE) := by
 obtain ⟨h1, h2, h3⟩ := h
 match rows, h1, h2, h3 with
 | [], _, _, h3 => simp at h3
 | [_], _, _, h3 => simp at h3
 | _ :: _ :: _ :: _, _, _, h3 => simp at h3
 | [e1, e2], h1, h2, h3 =>
  simp only [List.map_cons, List.map_nil, List.cons.injEq, and_true] at h3
  obtain ⟨g1, g2⟩ := h3
  obtain ⟨A1, c1, k1, k2⟩ := h2 e1 List.mem_cons_self
  obtain ⟨A2, c2, k3, k4⟩ := h2 e2 (List.mem_cons_of_mem _ List.mem_cons_self)
  obtain ⟨b, o, rfl, hc1⟩ := h1 0 e1.v rfl
  obtain ⟨b', o', e, hc2⟩ := h1 1 e2.v rfl
  cases e
  unfold EsR.v at hc1 hc2
  rw [k1, g1] at hc1
  rw [k3, g2] at hc2
  rw [g1] at k2
  rw [g2] at k4
  exact ⟨e1, e2, b, o, A1, A2, c1, c2, rfl, rfl, ext_of hc1, ext_of hc2, k2, k4⟩
def nearV (x y : List Sg) (limit : Int) : Value := if 0 <= limit /\ limit <= 1000 then .tuple ⟨[.bool (simB (essC x) (essC y) limit), .int .i64 0]⟩ else .tuple ⟨[.bool false, .int .i64 450]⟩
theorem Near12_calls (x y : Ed) (limit : Int) (w : World) (hx : x.OK w) (hy : y.OK w) :
  Calls Tryz.prog 12 ⟨[.slice x.A x.l.length x.c, .slice y.A y.l.length y.c, .int .i64 limit]⟩ w fun e w' => e = .returned (nearV x.l y.l limit) /\ Under w.heap.size w w' := by
 refine fEn Tryz.func12 rfl Tryz.ntmps12 rfl rfl (sWn w) ?_
 repeat ((fail_if_success refine c_probe (id := 1) ?_); (fail_if_success refine c_probe1 (id := 1) ?_); first|refine lVa rfl rfl (by first|exact pEv rfl|fail) ?_|refine lNi ?_|refine cRg ?_|refine cSq ?_|refine xTh ?_|fail)
 refine cSq ?_
 repeat (first|refine lVa rfl rfl (by first|exact pEv rfl|fail) ?_|refine cRg ?_|refine r_buildSlice rfl rfl rfl rfl rfl rfl (by rfl) (fun _ => ?_)|fail)
 rename_i bq
 refine l_callF (ι := Option Addr × Nat × List EsR) (v := fun i => if 0 <= limit /\ limit <= 1000 then .tuple ⟨[.slice i.1 2 i.2.1, .int .i64 0]⟩ else .tuple ⟨[.slice none 0 0, .int .i64 450]⟩) (mem' := []) (fun i W W' => EssR [x, y] i.1 i.2.2 W') rfl rfl rfl .nil (fun W hW => ?_) ?_
 ·have hB := hW.below
  exact essences32_calls limit (some ⟨bq, 0, none⟩) 2 [x, y] W (at_own (l := [x, y]) (f := Ed.v) (rest := []) hW List.mem_cons_self (fun x => rfl)) (by simp) (fun z hz => by
   rcases List.mem_cons.1 hz with rfl | hz
   ·exact hx.later hB
   ·rw [List.mem_singleton.1 hz]; exact hy.later hB)
 rintro ⟨X, cX, rows⟩ W W' hW hB hW' hE
 have hbl : ∀ {mem : List (Nat × Obj)} {V : World}, SatW W' (allBut W' (List.map (·.1) ([] : List (Nat × Obj)))) noJ mem V -> Under W'.heap.size W' V := fun hV => hV.same.below (Nat.le_refl _) fun k hk => ⟨hk, by simp⟩
 simp only at hE ⊢
 by_cases h0 : 0 <= limit /\ limit <= 1000
 rotate_left
 ·rw [if_neg h0]
  have hv : nearV x.l y.l limit = .tuple ⟨[.bool false, .int .i64 450]⟩ := if_neg h0
  repeat (first|refine lVa rfl rfl (by first|exact pEv rfl|fail) ?_|refine lNi ?_|refine cSq ?_|refine xTh ?_|refine c_ret ?_|refine c_reads rfl (by decide +kernel) ?_|refine q_val rfl rfl (by first|exact pEv rfl|fail) ?_|refine q_nil ?_|refine q_skip rfl rfl ?_|fail)
  exact x_ret rfl rfl (by repeat constructor) rfl (fun V hV => ⟨by rw [hv], hW.below.trans ((hB.trans ((hbl hV).mono hB.size)).mono hW.below.size)⟩)
 rw [if_pos h0]
 have hv : nearV x.l y.l limit = .tuple ⟨[.bool (simB (essC x.l) (essC y.l) limit), .int .i64 0]⟩ := if_pos h0
 obtain ⟨e1, e2, b, o, A1, A2, c1, c2, rfl, rfl, x1, x2, a1, a2⟩ := ess_two hE
 have hs := fun V (hV : Under W'.heap.size W' V) => simE_calls x.l y.l A1 A2 c1 c2 limit V h0 hx.form hy.form hx.len hy.len (a1.later hV) (a2.later hV)
 have y1 : Ext W' (allBut W' (List.map (·.1) ([] : List (Nat × Obj)))) _ _ _ := ⟨⟨x1.dom, by simp⟩, x1.cell⟩
 have y2 : Ext W' (allBut W' (List.map (·.1) ([] : List (Nat × Obj)))) _ _ _ := ⟨⟨x2.dom, by simp⟩, x2.cell⟩
 clear x1 x2
 repeat ((fail_if_success refine c_probe (id := 2) ?_); (fail_if_success refine c_probe1 (id := 2) ?_); first|refine lVa rfl rfl (by first|exact pEv rfl|fail) ?_|refine lNi ?_|refine xTh ?_|fail)
 refine cSq ?_
 repeat (first|refine c_reads rfl (by decide +kernel) ?_|refine q_val rfl rfl (by first|exact pEv rfl|exact vL0 rfl (by assumption) rfl (by rfl)|exact v_index rfl rfl rfl rfl (by omega) (by omega) (by with_reducible first|exact idx6 _ _|fail)|fail) ?_|refine q_dec_t rfl rfl rfl rfl (by first|omega|fail) ?_|fail)
 refine q_call rfl rfl rfl (fun V hV => hs V (hbl hV)) ?_
 repeat (first|refine xTh ?_|refine c_ret ?_|refine q_val rfl rfl (by first|exact pEv rfl|fail) ?_|refine q_nil ?_|fail)
 exact x_ret rfl rfl (by repeat constructor) rfl (fun V hV => ⟨by rw [hv], hW.below.trans ((hB.trans ((hbl hV).mono hB.size)).mono hW.below.size)⟩)
end R41
end Go.Proofs

set_option maxRecDepth 100000
set_option maxHeartbeats 400000000
namespace Go.Proofs
open Go.RowKit Go.Kin Go.Kin.Cl Go.Shelf
namespace R41
def renM97 : Ren := ⟨fun i => if i = 212 then 97 else if i = 263 then 117 else if i = 264 then 118 else i, fun i => if i = 46 then 103 else if i = 51 then 23 else if i = 146 then 177 else if i = 53 then 144 else if i = 148 then 179 else i, fun i => i⟩
theorem layM97 : Lays.n212 Tryz.prog renM97 where
 mixed := by kernel_rfl
 f212 := by kernel_rfl
 f263 := by kernel_rfl
 f264 := by kernel_rfl
 t46 := Tryz.underlying103
 a46 := Tryz.isAgg103
 z46 := Tryz.sizeOf103
 v46 := Tryz.zeroValue103
 t51 := Tryz.underlying23
 a51 := Tryz.isAgg23
 z51 := Tryz.sizeOf23
 v51 := Tryz.zeroValue23
 t53 := Tryz.underlying144
 a53 := Tryz.isAgg144
 z53 := Tryz.sizeOf144
 v53 := Tryz.zeroValue144
 t146 := Tryz.underlying177
 a146 := Tryz.isAgg177
 z146 := Tryz.sizeOf177
 v146 := Tryz.zeroValue177
 t148 := Tryz.underlying179
 a148 := Tryz.isAgg179
 z148 := Tryz.sizeOf179
 v148 := Tryz.zeroValue179
theorem mul97_calls (w : World) : Calls Tryz.prog 97 ⟨[.int .u64 1, .int .u64 2]⟩ w fun e w' => e = .returned (.tuple ⟨[.int .u64 0, .int .u64 2]⟩) /\ Under w.heap.size w w' :=
 (Any.bits_Mul (P := Tryz.prog) (ρ := renM97) layM97 1 2 (by decide) (by decide) w).mono fun _ _ ⟨h1, h2⟩ => ⟨h1, h2 ▸ Kin.Under.refl _ _⟩
theorem repeat68_calls (b o cap : Nat) (x : Int) (w : World) (hA : Kin.At w (some ⟨b, o, none⟩) 1 [inE x]) :
  Calls Tryz.prog 68 ⟨[.slice (some ⟨b, o, none⟩) 1 cap, .int .i64 2]⟩ w (FrQ [] (fun b : Nat => .slice (some ⟨b, 0, none⟩) 2 2) (fun b => [(b, .cells ⟨[.int .i64 x, .int .i64 x]⟩ 3 (0, 0))]) w) := by
 have hsat := frQ_start (W := w) (pre := []) (by simp) fun p hp => by cases hp
 have hbl : ∀ {mem : List (Nat × Obj)} {W : World}, SatW w (allBut w (List.map (·.1) ([] : List (Nat × Obj)))) noJ mem W -> Under w.heap.size w W := fun hW => hW.same.below (Nat.le_refl _) fun k hk => ⟨hk, by simp⟩
 obtain ⟨b', o', e, hc⟩ := hA 0 (inE x) rfl
 cases e
 have x1 : Ext w (allBut w (List.map (·.1) ([] : List (Nat × Obj)))) b o [.int .i64 x] := ⟨⟨(ext_of hc).dom, by simp⟩, fun i v h => by have := (ext_of hc).cell i v h; simpa using this⟩
 refine fEn Tryz.func68 rfl Tryz.ntmps68 rfl rfl hsat ?_
 repeat ((fail_if_success refine c_probe (id := 3) ?_); (fail_if_success refine c_probe1 (id := 3) ?_); first|refine lVa rfl rfl (by first|exact pEv rfl|fail) ?_|refine lNi ?_|refine cRg ?_|refine cSq ?_|refine xTh ?_|refine c_false rfl ?_|refine cSk ?_|fail)
 refine cSq ?_
 repeat (first|refine lVa rfl rfl (by first|exact v_uconv rfl rfl rfl (by omega)|exact pEv rfl|fail) ?_|refine cRg ?_|fail)
 refine r_call rfl rfl rfl (fun W hW => mul97_calls W) ?_
 repeat ((fail_if_success refine c_probe (id := 7) ?_); (fail_if_success refine c_probe1 (id := 7) ?_); first|refine lVa rfl rfl (by first|exact v_iconv rfl rfl rfl (by omega) (by omega)|exact pEv rfl|fail) ?_|refine lNi ?_|refine cRg ?_|refine cSq ?_|refine xTh ?_|refine c_false rfl ?_|refine cSk ?_|fail)
 refine r_make (n := 2) (cs := [.int .i64 0, .int .i64 0]) rfl rfl rfl rfl rfl rfl rfl (by decide) (by decide) rfl rfl rfl (fun bn => ?_)
 repeat ((fail_if_success refine c_probe (id := 7) ?_); (fail_if_success refine c_probe1 (id := 7) ?_); first|refine lVa rfl rfl (by first|exact pEv rfl|fail) ?_|refine lNi ?_|refine xTh ?_|fail)
 refine cSq ?_
 repeat (first|refine lVa rfl rfl (by first|exact pEv rfl|fail) ?_|refine cRg ?_|fail)
 refine r_copy (cs := [.int .i64 x]) (cur := [.int .i64 0, .int .i64 0]) rfl rfl rfl rfl rfl rfl (new := [.int .i64 x, .int .i64 0]) (news_ext x1) (by repeat constructor) rfl rfl rfl (by simp) (fun v hv => by rw [List.mem_singleton.1 hv]; rfl) ?_
 repeat ((fail_if_success refine c_probe (id := 8) ?_); (fail_if_success refine c_probe1 (id := 8) ?_); first|refine lVa rfl rfl (by first|exact pEv rfl|fail) ?_|refine lNi ?_|refine cSq ?_|refine xTh ?_|refine cBl ?_|fail)
 refine c_rounds 1 ?_
 repeat ((fail_if_success refine c_probe (id := 9) ?_); (fail_if_success refine c_probe1 (id := 9) ?_); first|refine lVa rfl rfl (by first|exact pEv rfl|fail) ?_|refine lNi ?_|refine cRg ?_|refine cSq ?_|refine xTh ?_|refine c_true rfl ?_|refine cBl ?_|refine cSk ?_|fail)
 refine c_new 1 0 [(7, .upd 0)] [(7, [0])] [] rfl (by decide +kernel) rfl ?_
 repeat (first|refine e_val rfl rfl rfl rfl (v_sliceL (l := 1) rfl rfl rfl rfl rfl (by decide) (by decide)) ?_|refine e_val rfl rfl rfl rfl (v_sliceH (h := 1) rfl rfl rfl rfl rfl (by decide)) ?_|refine e_val rfl rfl rfl rfl (by first|exact pEv rfl|fail) ?_|fail)
 refine e_copy (cs := [.int .i64 x]) (cur := [.int .i64 x, .int .i64 0]) (new := [.int .i64 x, .int .i64 x]) rfl rfl rfl rfl rfl rfl rfl rfl (fun j v hj => by cases j with | zero => exact hj | succ j => simp at hj) rfl rfl rfl (by simp) (fun v hv => by rw [List.mem_singleton.1 hv]; rfl) ?_
 repeat (first|refine lVa rfl rfl (by first|exact pEv rfl|fail) ?_|refine lNi ?_|refine cRg ?_|refine cSq ?_|refine xTh ?_|refine c_false rfl ?_|refine c_ret ?_|refine c_exit ?_|refine xTe ?_|refine x_block ?_|refine xBs ?_|refine e_val rfl rfl rfl rfl (by first|exact pEv rfl|fail) ?_|refine e_nil rfl ?_|fail)
 skip
 skip
 skip
 exact x_ret rfl rfl (by repeat constructor) rfl (fun W hW => ⟨bn, rfl, hW⟩)
end R41
end Go.Proofs

set_option maxRecDepth 100000
set_option maxHeartbeats 400000000
namespace Go.Proofs
open Go.RowKit Go.Kin Go.Kin.Cl
namespace R41
def stV (q : Bool) (to : Nat) : List Int := if to = 0 then [0, if q then 1 else -1] else [if q then 1 else -1, 0]
/-- where the graph of two editions lies -/
structure GrOK (w : World) (b o : Nat) (q : Bool) : Prop where
 ex : ∃ b0 o0 c0 b1 o1 c1, Ext w (base w) b o [.slice (some ⟨b0, o0, none⟩) 2 c0, .slice (some ⟨b1, o1, none⟩) 2 c1] /\ Ext w (base w) b0 o0 [.bool true, .bool q] /\ Ext w (base w) b1 o1 [.bool q, .bool true]
theorem steps36_calls (q : Bool) (to b o cap : Nat) (w : World) (hG : GrOK w b o q) (ht : to <= 1) :
  Calls Tryz.prog 36 ⟨[.slice (some ⟨b, o, none⟩) 2 cap, .int .i64 to]⟩ w (FrQ [] (fun b : Nat => .slice (some ⟨b, 0, none⟩) 2 2) (fun b => [(b, .cells ⟨flZ (stV q to)⟩ 3 (0, 0))]) w) := by
 have hsat := frQ_start (W := w) (pre := []) (by simp) fun p hp => by cases hp
 obtain ⟨b0, o0, c0, b1, o1, c1, x1, x2, x3⟩ := hG.ex
 have y1 : Ext w (allBut w (List.map (·.1) ([] : List (Nat × Obj)))) _ _ _ := ⟨⟨x1.dom, by simp⟩, x1.cell⟩
 have y2 : Ext w (allBut w (List.map (·.1) ([] : List (Nat × Obj)))) _ _ _ := ⟨⟨x2.dom, by simp⟩, x2.cell⟩
 have y3 : Ext w (allBut w (List.map (·.1) ([] : List (Nat × Obj)))) _ _ _ := ⟨⟨x3.dom, by simp⟩, x3.cell⟩
 clear x1 x2 x3 hG
 refine fEn Tryz.func36 rfl Tryz.ntmps36 rfl rfl hsat ?_
 repeat (first|refine lVa rfl rfl (by first|exact pEv rfl|fail) ?_|refine lNi ?_|refine cRg ?_|refine cSq ?_|refine xTh ?_|refine r_buildSlice rfl rfl rfl rfl rfl rfl (by rfl) (fun _ => ?_)|refine c_scope ?_|fail)
 rename_i bq
 refine r_callF (pre := []) rfl rfl rfl (List.Perm.refl _) (fun W hW _ _ => repeat68_calls bq 0 1 (-1) W (at_own (l := [-1]) (f := inE) (rest := []) hW List.mem_cons_self (fun x => rfl))) ?_
 intro bn
 simp only [List.cons_append, List.nil_append]
 refine l_perm (.refl _) ?_
 obtain rfl | rfl : to = 0 ∨ to = 1 := by omega
 ·cases q
  ·repeat (first|refine lVa rfl rfl (by first|exact v_add rfl rfl (by omega) (by omega)|exact pEv rfl|exact vLd rfl (by repeat constructor) rfl (by rfl)|exact vL0 rfl (by assumption) rfl (by rfl)|exact vLe rfl (by assumption) rfl (by rfl)|exact v_index rfl rfl rfl rfl (by omega) (by omega) (by with_reducible first|exact idx1 _|exact idx2 _ _|exact idx5 _|exact idx6 _ _|fail)|fail) ?_|refine lNi ?_|refine cRg ?_|refine cSq ?_|refine xTh ?_|refine l_skip rfl rfl ?_|refine rSt rfl rfl rfl rfl rfl rfl rfl (by repeat constructor) (by rfl) ?_|refine r_buildSlice rfl rfl rfl rfl rfl rfl (by rfl) (fun _ => ?_)|refine c_true rfl ?_|refine c_false rfl ?_|refine cBl ?_|refine cSk ?_|refine c_ret ?_|refine c_exit ?_|refine xTe ?_|refine x_block ?_|refine xBs ?_|refine x_block_other rfl ?_|refine c_label ?_|refine x_scope_ret ?_|refine c_rounds 5 ?_|fail)
   exact x_ret rfl rfl (by repeat constructor) rfl (fun W hW => ⟨bn, rfl, hW.mono (MSub.sub (by repeat (first|exact .nil|refine .keep (by first|rfl|assumption) ?_|refine .drop ?_|exact MSub.refl _)))⟩)
  ·repeat (first|refine lVa rfl rfl (by first|exact v_add rfl rfl (by omega) (by omega)|exact pEv rfl|exact vLd rfl (by repeat constructor) rfl (by rfl)|exact vL0 rfl (by assumption) rfl (by rfl)|exact vLe rfl (by assumption) rfl (by rfl)|exact v_index rfl rfl rfl rfl (by omega) (by omega) (by with_reducible first|exact idx1 _|exact idx2 _ _|exact idx5 _|exact idx6 _ _|fail)|fail) ?_|refine lNi ?_|refine cRg ?_|refine cSq ?_|refine xTh ?_|refine rSt rfl rfl rfl rfl rfl rfl rfl (by repeat constructor) (by rfl) ?_|refine r_buildSlice rfl rfl rfl rfl rfl rfl (by rfl) (fun _ => ?_)|refine c_true rfl ?_|refine c_false rfl ?_|refine cBl ?_|refine cSk ?_|refine x_block ?_|refine c_label ?_|refine c_rounds 5 ?_|fail)
   refine r_appendZ (f := inE) (e := 3) (sz := 1) (xs := []) (ys := [0 + 1]) (m := 1) (b := 0) (cap := 0) (rest := []) rfl rfl rfl rfl rfl rfl rfl (.inr ⟨_, 0, rfl, news_own (by repeat constructor)⟩) (.refl _) (fun h => absurd rfl h) inE_rows rfl rfl (by decide) (by unfold maxLen; decide) (fun b8 c8 r8 _ => ?_)
   rw [List.nil_append, gSl_ne (by simp), gM_ne (by simp)]
   simp only [List.cons_append, List.nil_append, List.length_cons, List.length_nil, List.map_cons, List.map_nil, List.flatten_cons, List.flatten_nil]
   repeat (first|refine lVa rfl rfl (by first|exact v_add rfl rfl (by omega) (by omega)|exact pEv rfl|exact vLd rfl (by repeat constructor) rfl (by rfl)|exact vL0 rfl (by assumption) rfl (by rfl)|exact vLe rfl (by assumption) rfl (by rfl)|exact v_index rfl rfl rfl rfl (by omega) (by omega) (by with_reducible first|exact idx5 _|exact idx6 _ _|fail)|fail) ?_|refine lNi ?_|refine cRg ?_|refine cSq ?_|refine xTh ?_|refine c_true rfl ?_|refine c_false rfl ?_|refine cBl ?_|refine cSk ?_|refine c_ret ?_|refine c_exit ?_|refine xTe ?_|refine x_block ?_|refine xBs ?_|refine x_block_other rfl ?_|refine x_scope_ret ?_|refine c_rounds 5 ?_|fail)
   exact x_ret rfl rfl (by repeat constructor) rfl (fun W hW => ⟨bn, rfl, hW.mono (MSub.sub (by repeat (first|exact .nil|refine .keep (by first|rfl|assumption) ?_|refine .drop ?_|exact MSub.refl _)))⟩)
 ·cases q
  ·repeat (first|refine lVa rfl rfl (by first|exact v_add rfl rfl (by omega) (by omega)|exact pEv rfl|exact vLd rfl (by repeat constructor) rfl (by rfl)|exact vL0 rfl (by assumption) rfl (by rfl)|exact vLe rfl (by assumption) rfl (by rfl)|exact v_index rfl rfl rfl rfl (by omega) (by omega) (by with_reducible first|exact idx1 _|exact idx2 _ _|exact idx5 _|exact idx6 _ _|fail)|fail) ?_|refine lNi ?_|refine cRg ?_|refine cSq ?_|refine xTh ?_|refine l_skip rfl rfl ?_|refine rSt rfl rfl rfl rfl rfl rfl rfl (by repeat constructor) (by rfl) ?_|refine r_buildSlice rfl rfl rfl rfl rfl rfl (by rfl) (fun _ => ?_)|refine c_true rfl ?_|refine c_false rfl ?_|refine cBl ?_|refine cSk ?_|refine c_ret ?_|refine c_exit ?_|refine xTe ?_|refine x_block ?_|refine xBs ?_|refine x_block_other rfl ?_|refine c_label ?_|refine x_scope_ret ?_|refine c_rounds 5 ?_|fail)
   exact x_ret rfl rfl (by repeat constructor) rfl (fun W hW => ⟨bn, rfl, hW.mono (MSub.sub (by repeat (first|exact .nil|refine .keep (by first|rfl|assumption) ?_|refine .drop ?_|exact MSub.refl _)))⟩)
  ·repeat (first|refine lVa rfl rfl (by first|exact pEv rfl|exact vLd rfl (by repeat constructor) rfl (by rfl)|exact vL0 rfl (by assumption) rfl (by rfl)|exact vLe rfl (by assumption) rfl (by rfl)|exact v_index rfl rfl rfl rfl (by omega) (by omega) (by with_reducible first|exact idx1 _|exact idx2 _ _|exact idx5 _|exact idx6 _ _|fail)|fail) ?_|refine lNi ?_|refine cRg ?_|refine cSq ?_|refine xTh ?_|refine rSt rfl rfl rfl rfl rfl rfl rfl (by repeat constructor) (by rfl) ?_|refine r_buildSlice rfl rfl rfl rfl rfl rfl (by rfl) (fun _ => ?_)|refine c_true rfl ?_|refine cBl ?_|refine cSk ?_|refine c_label ?_|refine c_rounds 5 ?_|fail)
   refine r_appendZ (f := inE) (e := 3) (sz := 1) (xs := []) (ys := [0]) (m := 1) (b := 0) (cap := 0) (rest := []) rfl rfl rfl rfl rfl rfl rfl (.inr ⟨_, 0, rfl, news_own (by repeat constructor)⟩) (.refl _) (fun h => absurd rfl h) inE_rows rfl rfl (by decide) (by unfold maxLen; decide) (fun b8 c8 r8 _ => ?_)
   rw [List.nil_append, gSl_ne (by simp), gM_ne (by simp)]
   simp only [List.cons_append, List.nil_append, List.length_cons, List.length_nil, List.map_cons, List.map_nil, List.flatten_cons, List.flatten_nil]
   repeat (first|refine lVa rfl rfl (by first|exact v_add rfl rfl (by omega) (by omega)|exact pEv rfl|exact vLd rfl (by repeat constructor) rfl (by rfl)|exact vL0 rfl (by assumption) rfl (by rfl)|exact vLe rfl (by assumption) rfl (by rfl)|exact v_index rfl rfl rfl rfl (by omega) (by omega) (by with_reducible first|exact idx5 _|exact idx6 _ _|fail)|fail) ?_|refine lNi ?_|refine cRg ?_|refine cSq ?_|refine xTh ?_|refine c_true rfl ?_|refine c_false rfl ?_|refine cBl ?_|refine cSk ?_|refine c_ret ?_|refine c_exit ?_|refine xTe ?_|refine x_block ?_|refine xBs ?_|refine x_block_other rfl ?_|refine x_scope_ret ?_|refine c_rounds 5 ?_|fail)
   exact x_ret rfl rfl (by repeat constructor) rfl (fun W hW => ⟨bn, rfl, hW.mono (MSub.sub (by repeat (first|exact .nil|refine .keep (by first|rfl|assumption) ?_|refine .drop ?_|exact MSub.refl _)))⟩)
end R41
end Go.Proofs

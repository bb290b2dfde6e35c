/- Games on networks: a strategy is read, walked. -/
import Derived.Test.YtcodoembnjemkaaGreatSgTab
import Derived.Test.YtcodoembnjemkaaGreatEng41
import Derived.Test.YtcodoembnjemkaaGreatSgInto
set_option maxRecDepth 100000
set_option maxHeartbeats 400000000
set_option linter.unusedSectionVars false
set_option linter.unusedVariables false
set_option linter.unusedSimpArgs false
namespace Go.Proofs
open Go.RowKit Go.Kin Go.Kin.St Go.Kin.Ct Go.Kin.Sg
namespace R24
theorem read_calls (u : R23.Un) (T : Int) (S : Option Addr) (cs : Nat) (rows : List DW) (w : World) (hA : u.In w) (hl : u.L.length <= 1000) (hc : u.C.length <= 1000) (hS : StrIn w S rows) (hrl : rows.length <= 10000000) (hdl : ∀ r ∈ rows, r.l.length <= 1000 /\ r.d.length <= 1000) :
  Calls Tryz.prog 21 ⟨[.agg ⟨u.v⟩, .int .i64 T, .slice S rows.length cs]⟩ w (RdQ u.n u.L u.C T rows w) := by
 have hck : ∀ (mem : List (Nat × Obj)) (W : World), SatW w (base w) noJ mem W -> Calls Tryz.prog 17 ⟨[.agg ⟨u.v⟩, .int .i64 T]⟩ W fun e w' => e = .returned (.int .i64 (chkS u.n u.L u.C T)) /\ Below W.heap.size W w' := fun mem W hW => CheckS_calls u T W (hA.sat hW) hl hc
 obtain ⟨n, A, cap, L, B, cab, C⟩ := u
 simp only [R23.Un.v] at hl hc hck ⊢
 refine fEn Tryz.func21 rfl Tryz.ntmps21 rfl rfl (sWn w) ?_
 repeat (first|refine lVa rfl rfl (by first|exact pEv rfl|exact vLd rfl (by repeat constructor) rfl (by rfl)|fail) ?_|refine lNi ?_|refine cRg ?_|refine cSq ?_|refine xTh ?_|refine r_box rfl rfl rfl rfl (fun _ => ?_)|fail)
 refine r_call rfl rfl rfl (fun W hW => hck _ W hW) ?_
 by_cases h0 : chkS n L C T = 0
 rotate_left
 ·repeat (first|refine lVa rfl rfl (by first|exact pEv rfl|fail) ?_|refine lNi ?_|refine cRg ?_|refine cSq ?_|refine xTh ?_|refine c_dec_t rfl (by first|omega|fail) ?_|refine c_ret ?_|refine xTr ?_|fail)
  exact x_ret rfl rfl (by repeat constructor) rfl (fun W hW => ⟨hW.below, .inl ⟨by rw [rdC_a h0]; exact h0, by rw [rdC_a h0]⟩⟩)
 rw [h0]
 by_cases h2 : 4096 < rows.length
 ·have hr := rdC_2 (n := n) (L := L) (C := C) (T := T) h0 h2
  repeat (first|refine lVa rfl rfl (by first|exact pEv rfl|fail) ?_|refine lNi ?_|refine cRg ?_|refine cSq ?_|refine xTh ?_|refine c_false rfl ?_|refine c_dec_t rfl (by first|omega|fail) ?_|refine cSk ?_|refine c_ret ?_|refine xTr ?_|fail)
  exact x_ret rfl rfl (by repeat constructor) rfl (fun W hW => ⟨hW.below, .inl ⟨by rw [hr]; decide, by rw [hr]⟩⟩)
 obtain ⟨c0, t1, t2, t3, t4, t5⟩ := chkS_ok h0
 obtain ⟨n1, n2⟩ := R23.chkU_ok c0
 obtain ⟨t, rfl⟩ : ∃ t : Nat, T = t := ⟨T.toNat, by omega⟩
 obtain ⟨N, rfl⟩ : ∃ N : Nat, n = N := ⟨n.toNat, by omega⟩
 have hno : ∀ {i : Nat} {r : DW}, rows[i]? = some r -> ¬ okR N t rows i r -> rdC N L C t rows = 240 := fun {i r} hr hn => rdC_no h0 h2 fun h => hn (by have := h i r hr; simpa using this)
 repeat (first|refine lVa rfl rfl (by first|exact pEv rfl|fail) ?_|refine lNi ?_|refine cRg ?_|refine cSq ?_|refine xTh ?_|refine r_makeMap rfl rfl (fun _ => ?_)|refine c_false rfl ?_|refine c_dec_f rfl (by first|omega|fail) ?_|refine cBl ?_|refine cSk ?_|fail)
 rename_i b3 bm
 refine c_loop (ι := Nat) (fun i => i <= rows.length /\ ∀ j r, j < i -> rows[j]? = some r -> okR N t rows j r) (fun i => [(1, .int .i64 t), (2, .slice S rows.length cs), (3, .pointer (some ⟨b3, 0, none⟩)), (6, .map (some bm)), (26, .slice S rows.length cs), (27, .int .i64 rows.length), (28, .int .i64 i)])
  (fun i => [(bm, pkO (kvR (rows.take i))), (b3, .cells ⟨[.int .i64 N, .slice A L.length cap, .slice B C.length cab]⟩ 24 (0, 0))]) (fun i => rows.length - i) 0 ⟨Nat.zero_le _, fun j r hj => by omega⟩ (by repeat (first|exact .nil|refine .cons rfl (by first|rfl|(congr 1; done)|exact congrArg _ (by omega)|(simp; done)) ?_)) (by repeat (first|exact .nil|refine .keep (by first|rfl|assumption) ?_|refine .drop ?_|exact MSub.refl _)) ?_
 rintro i ⟨hi, hF⟩
 by_cases hlt : i < rows.length
 ·obtain ⟨r, hr⟩ : ∃ r, rows[i]? = some r := ⟨_, List.getElem?_eq_getElem hlt⟩
  have hrm := List.mem_of_getElem? hr
  obtain ⟨bS, oS, hSe, hcr⟩ := hS.r i (dwE r) (by rw [List.getElem?_map, hr]; rfl)
  have he := ext_of hcr
  obtain ⟨hd1, hd2⟩ := hdl r hrm
  have hatk := hS.k r hrm
  have hatd := hS.d r hrm
  subst hSe
  repeat ((fail_if_success refine c_probe (id := 10) ?_); (fail_if_success refine c_probe1 (id := 10) ?_); first|refine lVa rfl rfl (by first|exact pEv rfl|exact vL0 rfl (by assumption) rfl (by rfl)|exact v_index rfl rfl rfl rfl (by omega) (by omega) (by with_reducible first|exact idx4 _ _ _|fail)|fail) ?_|refine lNi ?_|refine cRg ?_|refine cSq ?_|refine xTh ?_|refine r_alloc rfl rfl rfl (by first|exact aggL|fail) (fun _ => ?_)|refine rSt rfl rfl rfl rfl rfl rfl rfl (by repeat constructor) (by rfl) ?_|refine c_dec_t rfl (by first|omega|fail) ?_|refine cBl ?_|refine cSk ?_|fail)
  repeat refine cSq ?_
  have hbad : ∀ {X : Prop}, X -> (okR N t rows i r -> ¬ X) -> rdC N L C t rows = 240 := fun hx hi => hno hr fun h => hi h hx
  by_cases a1 : r.k < 0
  ·have hcode := hbad a1 fun h => by have := h.k0; omega
   refine c_new 0 0 [(33, .cal (.int .i64 0))] [(33, [])] [] rfl (by decide +kernel) rfl ?_
   repeat (first|refine e_val rfl rfl rfl rfl (by first|exact pEv rfl|exact vLd rfl (by repeat constructor) rfl (by rfl)|fail) ?_|fail)
   rw [decide_eq_true a1]
   repeat (first|refine lVa rfl rfl (by first|exact pEv rfl|fail) ?_|refine lNi ?_|refine cRg ?_|refine cSq ?_|refine xTh ?_|refine c_true rfl ?_|refine c_ret ?_|refine xTr ?_|refine xBr ?_|refine e_val rfl rfl rfl rfl (by first|exact pEv rfl|exact vLd rfl (by repeat constructor) rfl (by rfl)|fail) ?_|refine e_skip rfl rfl ?_|refine e_nil rfl ?_|fail)
   exact x_ret rfl rfl (by repeat constructor) rfl (fun W hW => ⟨hW.below, .inl ⟨by rw [hcode]; decide, by rw [hcode]⟩⟩)
  have e1 : decide (r.k < 0) = false := decide_eq_false a1
  by_cases a2 : (t : Int) < r.k
  ·have hcode := hbad a2 fun h => by have := h.kT; omega
   refine c_new 0 0 [(33, .cal (.int .i64 0))] [(33, [])] [] rfl (by decide +kernel) rfl ?_
   repeat (first|refine e_val rfl rfl rfl rfl (by first|exact pEv rfl|exact vLd rfl (by repeat constructor) rfl (by rfl)|fail) ?_|fail)
   rw [e1]
   repeat (first|refine e_val rfl rfl rfl rfl (by first|exact pEv rfl|exact vLd rfl (by repeat constructor) rfl (by rfl)|fail) ?_|fail)
   rw [decide_eq_true a2]
   repeat (first|refine lVa rfl rfl (by first|exact pEv rfl|fail) ?_|refine lNi ?_|refine cRg ?_|refine cSq ?_|refine xTh ?_|refine c_true rfl ?_|refine c_ret ?_|refine xTr ?_|refine xBr ?_|refine e_val rfl rfl rfl rfl (by first|exact pEv rfl|exact vLd rfl (by repeat constructor) rfl (by rfl)|fail) ?_|refine e_skip rfl rfl ?_|refine e_nil rfl ?_|fail)
   exact x_ret rfl rfl (by repeat constructor) rfl (fun W hW => ⟨hW.below, .inl ⟨by rw [hcode]; decide, by rw [hcode]⟩⟩)
  have e2 : decide ((t : Int) < r.k) = false := decide_eq_false a2
  by_cases a3 : (r.l.length : Int) ≠ N
  ·have hcode := hbad a3 fun h => by have := h.l; omega
   refine c_new 0 0 [(33, .cal (.int .i64 0))] [(33, [])] [] rfl (by decide +kernel) rfl ?_
   repeat (first|refine e_val rfl rfl rfl rfl (by first|exact pEv rfl|exact vLd rfl (by repeat constructor) rfl (by rfl)|fail) ?_|fail)
   rw [e1]
   repeat (first|refine e_val rfl rfl rfl rfl (by first|exact pEv rfl|exact vLd rfl (by repeat constructor) rfl (by rfl)|fail) ?_|fail)
   rw [e2]
   repeat (first|refine e_val rfl rfl rfl rfl (by first|exact pEv rfl|exact vLd rfl (by repeat constructor) rfl (by rfl)|fail) ?_|fail)
   rw [decide_eq_true a3]
   repeat (first|refine lVa rfl rfl (by first|exact pEv rfl|fail) ?_|refine lNi ?_|refine cRg ?_|refine cSq ?_|refine xTh ?_|refine c_true rfl ?_|refine c_ret ?_|refine xTr ?_|refine xBr ?_|refine e_val rfl rfl rfl rfl (by first|exact pEv rfl|exact vLd rfl (by repeat constructor) rfl (by rfl)|fail) ?_|refine e_skip rfl rfl ?_|refine e_nil rfl ?_|fail)
   exact x_ret rfl rfl (by repeat constructor) rfl (fun W hW => ⟨hW.below, .inl ⟨by rw [hcode]; decide, by rw [hcode]⟩⟩)
  have e3 : decide ((r.l.length : Int) ≠ N) = false := decide_eq_false a3
  have hln : r.l.length = N := by omega
  by_cases a4 : (r.d.length : Int) = 0
  ·have hcode := hbad a4 fun h => by have := List.length_pos_iff.2 h.d; omega
   refine c_new 0 0 [(33, .cal (.int .i64 0))] [(33, [])] [] rfl (by decide +kernel) rfl ?_
   repeat (first|refine e_val rfl rfl rfl rfl (by first|exact pEv rfl|exact vLd rfl (by repeat constructor) rfl (by rfl)|fail) ?_|fail)
   rw [e1]
   repeat (first|refine e_val rfl rfl rfl rfl (by first|exact pEv rfl|exact vLd rfl (by repeat constructor) rfl (by rfl)|fail) ?_|fail)
   rw [e2]
   repeat (first|refine e_val rfl rfl rfl rfl (by first|exact pEv rfl|exact vLd rfl (by repeat constructor) rfl (by rfl)|fail) ?_|fail)
   rw [e3]
   repeat (first|refine e_val rfl rfl rfl rfl (by first|exact pEv rfl|exact vLd rfl (by repeat constructor) rfl (by rfl)|fail) ?_|fail)
   rw [decide_eq_true a4]
   repeat (first|refine lVa rfl rfl (by first|exact pEv rfl|fail) ?_|refine lNi ?_|refine cRg ?_|refine cSq ?_|refine xTh ?_|refine c_true rfl ?_|refine c_ret ?_|refine xTr ?_|refine xBr ?_|refine e_val rfl rfl rfl rfl (by first|exact pEv rfl|exact vLd rfl (by repeat constructor) rfl (by rfl)|fail) ?_|refine e_skip rfl rfl ?_|refine e_nil rfl ?_|fail)
   exact x_ret rfl rfl (by repeat constructor) rfl (fun W hW => ⟨hW.below, .inl ⟨by rw [hcode]; decide, by rw [hcode]⟩⟩)
  have e4 : decide ((r.d.length : Int) = 0) = false := decide_eq_false a4
  rename_i b9
  obtain ⟨bp, hbp⟩ : ∃ bp : Bool, bp = true ↔ ¬ okP rows i r := ⟨@decide _ (Classical.propDecidable _), @decide_eq_true_iff _ (Classical.propDecidable _)⟩
  refine c_share [(1, .int .i64 t), (2, .slice (some ⟨bS, oS, none⟩) rows.length cs), (3, .pointer (some ⟨b3, 0, none⟩)), (6, .map (some bm)), (9, .pointer (some ⟨b9, 0, none⟩)), (26, .slice (some ⟨bS, oS, none⟩) rows.length cs), (27, .int .i64 rows.length), (28, .int .i64 i), (69, .bool bp)]
   [(b9, .cells ⟨dwE r⟩ 39 (0, 0)), (bm, pkO (kvR (rows.take i))), (b3, .cells ⟨[.int .i64 N, .slice A L.length cap, .slice B C.length cab]⟩ 24 (0, 0))] ?_ (fun hsh => ?_)
  rotate_left
  ·cases i with
   | zero =>
    have hpp : okP rows 0 r := fun j p h => by cases h
    have ed : bp = false := by
     cases bp with
     | false => rfl
     | true => exact absurd hpp (hbp.1 rfl)
    subst ed
    refine c_new 0 0 [(33, .cal (.int .i64 0))] [(33, [])] [] rfl (by decide +kernel) rfl ?_
    repeat (first|refine e_val rfl rfl rfl rfl (by first|exact pEv rfl|exact vLd rfl (by repeat constructor) rfl (by rfl)|fail) ?_|fail)
    rw [e1]
    repeat (first|refine e_val rfl rfl rfl rfl (by first|exact pEv rfl|exact vLd rfl (by repeat constructor) rfl (by rfl)|fail) ?_|fail)
    rw [e2]
    repeat (first|refine e_val rfl rfl rfl rfl (by first|exact pEv rfl|exact vLd rfl (by repeat constructor) rfl (by rfl)|fail) ?_|fail)
    rw [e3]
    repeat (first|refine e_val rfl rfl rfl rfl (by first|exact pEv rfl|exact vLd rfl (by repeat constructor) rfl (by rfl)|fail) ?_|fail)
    rw [e4]
    repeat (first|exact hsh (by repeat (first|exact .nil|refine .cons rfl (by first|rfl|(congr 1; done)|exact congrArg _ (by omega)|(simp; done)) ?_)) (by repeat (first|exact .nil|refine .keep (by first|rfl|assumption) ?_|refine .drop ?_|exact MSub.refl _))|refine e_val rfl rfl rfl rfl (by first|exact pEv rfl|exact vLd rfl (by repeat constructor) rfl (by rfl)|fail) ?_|refine e_skip rfl rfl ?_|refine e_nil rfl ?_|fail)
   | succ j =>
    have hxr : rows[j]? = some rows[j] := List.getElem?_eq_getElem (by omega)
    obtain ⟨x, hx⟩ : ∃ x, rows[j] = x := ⟨_, rfl⟩
    rw [hx] at hxr
    have hxm := List.mem_of_getElem? hxr
    have hox := hF j x (Nat.lt_succ_self j) hxr
    obtain ⟨bS', oS', hSe', hcx⟩ := hS.r j (dwE x) (by rw [List.getElem?_map, hxr]; rfl)
    cases hSe'
    have he2 : Ext w (base w) bS (oS + (((j + 1 : Nat) : Int) - 1).toNat * 3) (dwE x) := by
     rw [show (((j + 1 : Nat) : Int) - 1).toNat = j by omega]; exact ext_of hcx
    have hpk : okP rows (j + 1) r ↔ cmpK x.k x.l r.k r.l < 0 := ⟨fun h => h j x rfl hxr, fun h j' p e hp => by
     cases e
     rw [hxr] at hp; cases hp; exact h⟩
    have hcl : ∀ {mem : List (Nat × Obj)} {W : World}, SatW w (base w) noJ mem W -> Calls Tryz.prog 50 ⟨[.agg ⟨dwE x⟩, .agg ⟨dwE r⟩]⟩ W fun e w' => e = .returned (.int .i64 (cmpK x.k x.l r.k r.l)) /\ Below W.heap.size W w' := fun {mem W} hW =>
     compare_dw x r N hox.l hln (by omega) (by omega) W ((hS.k x hxm).sat hW) (hatk.sat hW)
    refine c_new 0 0 [(33, .cal (.int .i64 (cmpK x.k x.l r.k r.l)))] [(33, [])] [] rfl (by decide +kernel) rfl ?_
    repeat (first|refine e_val rfl rfl rfl rfl (by first|exact pEv rfl|exact vLd rfl (by repeat constructor) rfl (by rfl)|fail) ?_|fail)
    rw [e1]
    repeat (first|refine e_val rfl rfl rfl rfl (by first|exact pEv rfl|exact vLd rfl (by repeat constructor) rfl (by rfl)|fail) ?_|fail)
    rw [e2]
    repeat (first|refine e_val rfl rfl rfl rfl (by first|exact pEv rfl|exact vLd rfl (by repeat constructor) rfl (by rfl)|fail) ?_|fail)
    rw [e3]
    repeat (first|refine e_val rfl rfl rfl rfl (by first|exact pEv rfl|exact vLd rfl (by repeat constructor) rfl (by rfl)|fail) ?_|fail)
    rw [e4]
    repeat (first|refine e_val rfl rfl rfl rfl (by first|exact pEv rfl|fail) ?_|fail)
    rw [decide_eq_true (show (0 : Int) < ((j + 1 : Nat) : Int) by omega)]
    repeat (first|refine e_val rfl rfl rfl rfl (by first|exact v_sub rfl rfl (by omega) (by omega)|exact pEv rfl|exact vLd rfl (by repeat constructor) rfl (by rfl)|exact vL0 rfl (by assumption) rfl (by rfl)|exact v_index rfl rfl rfl rfl (by omega) (by omega) (by with_reducible first|exact idx8 _ _ _|fail)|fail) ?_|fail)
    refine e_call rfl rfl rfl rfl rfl (fun W hW => hcl hW) ?_
    have ed : bp = decide (0 <= cmpK x.k x.l r.k r.l) := by
     rw [Bool.eq_iff_iff, hbp, hpk, decide_eq_true_iff]; omega
    subst ed
    repeat (first|exact hsh (by repeat (first|exact .nil|refine .cons rfl (by first|rfl|(congr 1; done)|exact congrArg _ (by omega)|(simp; done)) ?_)) (by repeat (first|exact .nil|refine .keep (by first|rfl|assumption) ?_|refine .drop ?_|exact MSub.refl _))|refine e_val rfl rfl rfl rfl (by first|exact pEv rfl|fail) ?_|refine e_nil rfl ?_|fail)
  ·cases bp with
   | true =>
    have hcode := hbad (hbp.1 rfl) fun h h2 => h2 h.p
    repeat (first|refine lVa rfl rfl (by first|exact pEv rfl|fail) ?_|refine lNi ?_|refine cRg ?_|refine cSq ?_|refine xTh ?_|refine c_true rfl ?_|refine c_ret ?_|refine xTr ?_|refine xBr ?_|fail)
    exact x_ret rfl rfl (by repeat constructor) rfl (fun W hW => ⟨hW.below, .inl ⟨by rw [hcode]; decide, by rw [hcode]⟩⟩)
   | false =>
    have hpp : okP rows i r := Classical.byContradiction fun h => by cases hbp.2 h
    have hdne : r.d ≠ [] := fun e => a4 (by rw [e]; rfl)
    have hlne : r.l ≠ [] := fun e => by rw [e] at hln; simp at hln; omega
    obtain ⟨bd, od, hDe, hcd⟩ := at_cells hatd hdne
    obtain ⟨bk, ok, hKe, hck⟩ := at_cells hatk hlne
    have hdv : Value.slice r.D r.d.length r.cd = .slice (some ⟨bd, od, none⟩) r.d.length r.cd := by rw [hDe]
    have hkv : Value.slice r.K r.l.length r.ck = .slice (some ⟨bk, ok, none⟩) r.l.length r.ck := by rw [hKe]
    repeat ((fail_if_success refine c_probe (id := 14) ?_); (fail_if_success refine c_probe1 (id := 14) ?_); first|refine lVa rfl rfl (by first|exact pEv rfl|exact vLd rfl (by repeat constructor) rfl (by rfl)|fail) ?_|refine lNi ?_|refine cRg ?_|refine cSq ?_|refine xTh ?_|refine c_false rfl ?_|refine cBl ?_|refine cSk ?_|fail)
    rw [hdv]
    refine c_loop (ι := Nat) (fun j => j <= r.d.length /\ ∀ i x, i < j -> r.d[i]? = some x -> pv r.d i < x /\ x < N)
     (fun j => [(1, .int .i64 t), (2, .slice (some ⟨bS, oS, none⟩) rows.length cs), (3, .pointer (some ⟨b3, 0, none⟩)), (6, .map (some bm)), (9, .pointer (some ⟨b9, 0, none⟩)), (26, .slice (some ⟨bS, oS, none⟩) rows.length cs), (27, .int .i64 rows.length), (28, .int .i64 i), (10, .int .i64 (pv r.d j)), (71, .slice (some ⟨bd, od, none⟩) r.d.length r.cd), (72, .int .i64 r.d.length), (73, .int .i64 j)])
     (fun _ => [(b9, .cells ⟨dwE r⟩ 39 (0, 0)), (bm, pkO (kvR (rows.take i))), (b3, .cells ⟨[.int .i64 N, .slice A L.length cap, .slice B C.length cab]⟩ 24 (0, 0))]) (fun j => r.d.length - j) 0 ⟨Nat.zero_le _, fun i x h => absurd h (Nat.not_lt_zero _)⟩ (by repeat (first|exact .nil|refine .cons rfl (by first|rfl|(congr 1; done)|exact congrArg _ (by omega)|(simp; done)) ?_)) (by repeat (first|exact .nil|refine .keep (by first|rfl|assumption) ?_|refine .drop ?_|exact MSub.refl _)) ?_
    rintro j ⟨hj, hJ⟩
    by_cases hjt : j < r.d.length
    ·have hx : r.d[j]? = some (pv r.d (j + 1)) := by
      show _ = some (r.d.getD j 0)
      rw [List.getD_eq_getElem?_getD, List.getElem?_eq_getElem hjt]; rfl
     obtain ⟨x, hxe⟩ : ∃ x, pv r.d (j + 1) = x := ⟨_, rfl⟩
     have hx0 := hx
     rw [hxe] at hx
     have hxd : Ext w (base w) bd (od + j) [.int .i64 x] := ext_of fun q v hq => by
      cases q with
      | zero => cases hq; exact hcd j x hx
      | succ q => cases hq
     by_cases x1 : x <= pv r.d j
     ·have hcode := hbad x1 fun h => by have := (h.o j x hx).1; omega
      repeat (first|refine lVa rfl rfl (by first|exact pEv rfl|exact vL0 rfl (by assumption) rfl (by rfl)|exact v_index rfl rfl rfl rfl (by omega) (by omega) (by with_reducible first|exact idx2 _ _|fail)|fail) ?_|refine lNi ?_|refine cRg ?_|refine cSq ?_|refine xTh ?_|refine l_skip rfl rfl ?_|refine c_true rfl ?_|refine c_dec_t rfl (by first|omega|fail) ?_|refine cBl ?_|refine cSk ?_|refine c_ret ?_|refine xTr ?_|refine xBr ?_|refine l_dec_t rfl rfl rfl rfl rfl (by first|omega|fail) ?_|fail)
      exact x_ret rfl rfl (by repeat constructor) rfl (fun W hW => ⟨hW.below, .inl ⟨by rw [hcode]; decide, by rw [hcode]⟩⟩)
     by_cases x2 : (N : Int) <= x
     ·have hcode := hbad x2 fun h => by have := (h.o j x hx).2; omega
      repeat (first|refine lVa rfl rfl (by first|exact pEv rfl|exact vLd rfl (by repeat constructor) rfl (by rfl)|exact vL0 rfl (by assumption) rfl (by rfl)|exact v_index rfl rfl rfl rfl (by omega) (by omega) (by with_reducible first|exact idx2 _ _|fail)|fail) ?_|refine lNi ?_|refine cRg ?_|refine cSq ?_|refine xTh ?_|refine c_dec_t rfl (by first|omega|fail) ?_|refine cBl ?_|refine cSk ?_|refine c_ret ?_|refine xTr ?_|refine xBr ?_|refine l_dec_f rfl rfl rfl rfl rfl (by first|omega|fail) ?_|fail)
      exact x_ret rfl rfl (by repeat constructor) rfl (fun W hW => ⟨hW.below, .inl ⟨by rw [hcode]; decide, by rw [hcode]⟩⟩)
     repeat (first|refine lVa rfl rfl (by first|exact v_add rfl rfl (by omega) (by omega)|exact pEv rfl|exact vLd rfl (by repeat constructor) rfl (by rfl)|exact vL0 rfl (by assumption) rfl (by rfl)|exact v_index rfl rfl rfl rfl (by omega) (by omega) (by with_reducible first|exact idx2 _ _|fail)|fail) ?_|refine lNi ?_|refine cRg ?_|refine cSq ?_|refine xTh ?_|refine c_dec_t rfl (by first|omega|fail) ?_|refine c_dec_f rfl (by first|omega|fail) ?_|refine cBl ?_|refine cSk ?_|refine x_block ?_|refine l_dec_f rfl rfl rfl rfl rfl (by first|omega|fail) ?_|fail)
     rw [<- hxe]
     refine x_back (j + 1) ⟨hjt, fun i' x' hi' hx' => ?_⟩ (by omega) (by repeat (first|exact .nil|refine .cons rfl (by first|rfl|(congr 1; done)|exact congrArg _ (by omega)|(simp; done)) ?_)) (by repeat (first|exact .nil|refine .keep (by first|rfl|assumption) ?_|refine .drop ?_|exact MSub.refl _))
     by_cases hij : i' < j
     ·exact hJ i' x' hij hx'
     ·have e : i' = j := by omega
      subst e
      rw [hx] at hx'; cases hx'
      exact ⟨by omega, by omega⟩
    have hjl : j = r.d.length := by omega
    subst hjl
    have hokd : okD N r.d := fun i' x' hx' => hJ i' x' (List.getElem?_eq_some_iff.1 hx').1 hx'
    repeat ((fail_if_success refine c_probe (id := 22) ?_); (fail_if_success refine c_probe1 (id := 22) ?_); first|refine lVa rfl rfl (by first|exact pEv rfl|exact vLd rfl (by repeat constructor) rfl (by rfl)|exact v_build rfl rfl (by rfl)|fail) ?_|refine lNi ?_|refine cRg ?_|refine cSq ?_|refine xTh ?_|refine r_alloc rfl rfl rfl (by first|exact aggL|fail) (fun _ => ?_)|refine rSt rfl rfl rfl rfl rfl rfl rfl (by repeat constructor) (by rfl) ?_|refine c_dec_f rfl (by first|omega|fail) ?_|refine cBl ?_|refine c_exit ?_|refine xTe ?_|refine xBs ?_|fail)
    rename_i b13
    rw [hkv]
    refine c_loop (ι := Nat) (fun j => j <= r.l.length /\ ∀ i' x, i' < j -> r.l[i']? = some x -> 0 <= x /\ x <= r.k + 1)
     (fun j => [(1, .int .i64 t), (2, .slice (some ⟨bS, oS, none⟩) rows.length cs), (3, .pointer (some ⟨b3, 0, none⟩)), (6, .map (some bm)), (9, .pointer (some ⟨b9, 0, none⟩)), (26, .slice (some ⟨bS, oS, none⟩) rows.length cs), (27, .int .i64 rows.length), (28, .int .i64 i), (13, .pointer (some ⟨b13, 0, none⟩)), (92, .slice (some ⟨bk, ok, none⟩) r.l.length r.ck), (93, .int .i64 r.l.length), (94, .int .i64 j)])
     (fun j => [(b13, .cells ⟨plC r.k (lf r.l j)⟩ 54 (0, 0)), (b9, .cells ⟨dwE r⟩ 39 (0, 0)), (bm, pkO (kvR (rows.take i))), (b3, .cells ⟨[.int .i64 N, .slice A L.length cap, .slice B C.length cab]⟩ 24 (0, 0))]) (fun j => r.l.length - j) 0 ⟨Nat.zero_le _, fun i' x h => absurd h (Nat.not_lt_zero _)⟩ (by repeat (first|exact .nil|refine .cons rfl (by first|rfl|(congr 1; done)|exact congrArg _ (by omega)|(simp; done)) ?_)) (by rw [lf_0]; exact (by repeat (first|exact .nil|refine .keep (by first|rfl|assumption) ?_|refine .drop ?_|exact MSub.refl _))) ?_
    rintro j ⟨hj, hJ⟩
    by_cases hjt : j < r.l.length
    ·obtain ⟨x, hxe⟩ : ∃ x, kn r.l j = x := ⟨_, rfl⟩
     have hx : r.l[j]? = some x := by rw [<- hxe]; exact kn_at hjt
     have hxd : Ext w (base w) bk (ok + j) [.int .i64 x] := ext_of fun q v hq => by
      cases q with
      | zero => cases hq; exact hck j x hx
      | succ q => cases hq
     have hst : (plC r.k (lf r.l j)).set (1 + j) (.int .i64 x) = plC r.k (lf r.l (j + 1)) := by rw [plC_set, <- hxe, lf_set]
     by_cases x1 : x < 0
     ·have hcode := hbad x1 fun h => by have := (h.e x (List.mem_of_getElem? hx)).1; omega
      repeat (first|refine lVa rfl rfl (by first|exact pEv rfl|exact vL0 rfl (by assumption) rfl (by rfl)|exact v_index rfl rfl rfl rfl (by omega) (by omega) (by with_reducible first|exact idx2 _ _|fail)|fail) ?_|refine lNi ?_|refine cRg ?_|refine cSq ?_|refine xTh ?_|refine l_skip rfl rfl ?_|refine c_true rfl ?_|refine c_dec_t rfl (by first|omega|fail) ?_|refine cBl ?_|refine cSk ?_|refine c_ret ?_|refine xTr ?_|refine xBr ?_|refine l_dec_t rfl rfl rfl rfl rfl (by first|omega|fail) ?_|fail)
      exact x_ret rfl rfl (by repeat constructor) rfl (fun W hW => ⟨hW.below, .inl ⟨by rw [hcode]; decide, by rw [hcode]⟩⟩)
     by_cases x2 : r.k + 1 < x
     ·have hcode := hbad x2 fun h => by have := (h.e x (List.mem_of_getElem? hx)).2; omega
      repeat (first|refine lVa rfl rfl (by first|exact v_add rfl rfl (by omega) (by omega)|exact pEv rfl|exact vLd rfl (by repeat constructor) rfl (by rfl)|exact vL0 rfl (by assumption) rfl (by rfl)|exact v_index rfl rfl rfl rfl (by omega) (by omega) (by with_reducible first|exact idx2 _ _|fail)|fail) ?_|refine lNi ?_|refine cRg ?_|refine cSq ?_|refine xTh ?_|refine c_dec_t rfl (by first|omega|fail) ?_|refine cBl ?_|refine cSk ?_|refine c_ret ?_|refine xTr ?_|refine xBr ?_|refine l_dec_f rfl rfl rfl rfl rfl (by first|omega|fail) ?_|fail)
      exact x_ret rfl rfl (by repeat constructor) rfl (fun W hW => ⟨hW.below, .inl ⟨by rw [hcode]; decide, by rw [hcode]⟩⟩)
     repeat (first|refine r_store_at rfl rfl rfl rfl rfl rfl (by repeat constructor) (by rw [plC_len]; omega) hst ?_|refine lVa rfl rfl (by first|exact v_add rfl rfl (by omega) (by omega)|exact pEv rfl|exact vLd rfl (by repeat constructor) rfl (by rfl)|exact vL0 rfl (by assumption) rfl (by rfl)|exact v_index rfl rfl rfl rfl (by omega) (by omega) (by with_reducible first|exact idx2 _ _|fail)|exact v_indexA rfl rfl rfl rfl (by omega) (by omega) (by with_reducible first|exact idx2 _ _|fail)|fail) ?_|refine lNi ?_|refine cRg ?_|refine cSq ?_|refine xTh ?_|refine c_dec_t rfl (by first|omega|fail) ?_|refine c_dec_f rfl (by first|omega|fail) ?_|refine cBl ?_|refine cSk ?_|refine x_block ?_|refine l_dec_f rfl rfl rfl rfl rfl (by first|omega|fail) ?_|fail)
     refine x_back (j + 1) ⟨hjt, fun i' x' hi' hx' => ?_⟩ (by omega) (by repeat (first|exact .nil|refine .cons rfl (by first|rfl|(congr 1; done)|exact congrArg _ (by omega)|(simp; done)) ?_)) (by repeat (first|exact .nil|refine .keep (by first|rfl|assumption) ?_|refine .drop ?_|exact MSub.refl _))
     by_cases hij : i' < j
     ·exact hJ i' x' hij hx'
     ·have e : i' = j := by omega
      subst e
      rw [hx] at hx'; cases hx'
      exact ⟨by omega, by omega⟩
    have hjl : j = r.l.length := by omega
    subst hjl
    rw [lf_all]
    have hokl : okL r.k r.l := fun x hx => by
     obtain ⟨i', hi', rfl⟩ := List.mem_iff_getElem.1 hx
     exact hJ i' _ hi' (List.getElem?_eq_getElem hi')
    have hokr : okR N t rows i r := ⟨by omega, by omega, hln, hdne, hpp, hokd, hokl⟩
    have hF2 : ∀ j r, j < i + 1 -> rows[j]? = some r -> okR N t rows j r := fun j r' hj' hr' => by
     by_cases hji : j < i
     ·exact hF j r' hji hr'
     ·have e : j = i := by omega
      subst e
      rw [hr] at hr'; cases hr'; exact hokr
    have hnew : pkGet (kvR (rows.take i)) r.k (kn r.l) = none := kvR_none (n := N) (by omega) hln fun x hx => by
     refine ⟨?_, kvR_new (n := N) (T := t) (by omega) (i := i) (r := r) hF hr hln hpp x hx⟩
     obtain ⟨j, hj, hxj⟩ := List.mem_take_iff_getElem.1 hx
     exact (hF j x (by omega) (by rw [List.getElem?_eq_getElem (by omega), hxj])).l
    have hsn : kvR (rows.take i) ++ [((r.k, kn r.l), .slice r.D r.d.length r.cd)] = kvR (rows.take (i + 1)) := by
     rw [List.take_add_one, hr]; unfold kvR; rw [List.map_append]; rfl
    have hup : ∀ {rest : List (Nat × Obj)} {x y : Nat × Obj}, Upd (x :: y :: (bm, pkO (kvR (rows.take i))) :: rest) bm (pkO (kvR (rows.take i))) (pkO (kvR (rows.take i) ++ [((r.k, kn r.l), .slice r.D r.d.length r.cd)])) (x :: y :: (bm, pkO (kvR (rows.take (i + 1)))) :: rest) := fun {rest x y} => by rw [hsn]; exact (by repeat constructor)
    repeat (first|refine lVa rfl rfl (by first|exact v_add rfl rfl (by omega) (by omega)|exact pEv rfl|exact vLd rfl (by repeat constructor) rfl (by rfl)|fail) ?_|refine lNi ?_|refine cRg ?_|refine cSq ?_|refine xTh ?_|refine c_dec_f rfl (by first|omega|fail) ?_|refine c_exit ?_|refine xTe ?_|refine x_block ?_|refine xBs ?_|refine l_do rfl (d_pkNew (k := r.k) (f := kn r.l) (s := kvR (rows.take i)) rfl rfl rfl rfl pk67 hnew hup) ?_|fail)
    exact x_back (i + 1) ⟨hlt, hF2⟩ (by omega) (by repeat (first|exact .nil|refine .cons rfl (by first|rfl|(congr 1; done)|exact congrArg _ (by omega)|(simp; done)) ?_)) (by repeat (first|exact .nil|refine .keep (by first|rfl|assumption) ?_|refine .drop ?_|exact MSub.refl _))
 ·have hil : i = rows.length := by omega
  subst hil
  rw [List.take_length]
  have hok : okS (N : Int).toNat (t : Int).toNat rows := fun j r hr => by
   rw [Int.toNat_natCast, Int.toNat_natCast]; exact hF j r (List.getElem?_eq_some_iff.1 hr).1 hr
  have hcode := rdC_0 h0 h2 hok
  repeat (first|refine lVa rfl rfl (by first|exact pEv rfl|fail) ?_|refine lNi ?_|refine cRg ?_|refine cSq ?_|refine xTh ?_|refine c_dec_f rfl (by first|omega|fail) ?_|refine c_ret ?_|refine c_exit ?_|refine xTe ?_|refine xBs ?_|fail)
  refine x_ret rfl rfl (by repeat constructor) rfl (fun W hW => ⟨hW.below, .inr ⟨hcode, bm, rfl, ?_⟩⟩)
  have h := hW.own (bm, _) (by repeat constructor)
  exact ⟨Nat.le_of_not_lt h.1, h.2⟩
end R24
end Go.Proofs

set_option maxRecDepth 100000
set_option maxHeartbeats 400000000
namespace Go.Proofs
open Go.RowKit Go.Kin Go.Kin.St Go.Kin.Ct Go.Kin.Sg
namespace R24
/-- what `increasing` asks -/
def incH (h : Int) (d : List Int) : Prop := ∀ (i : Nat) (x : Int), d[i]? = some x -> 0 <= x /\ x <= h /\ ∀ (j : Nat) (y : Int), i = j + 1 -> d[j]? = some y -> y < x
theorem inc91_calls (A : Option Addr) (ca : Nat) (l : List Int) (h : Int) (bb : Bool) (w : World) (hA : At w A 1 (l.map inE)) (hl : l.length <= 9223372036854775806) (hb : bb = true ↔ incH h l) :
  Calls Tryz.prog 86 ⟨[.slice A l.length ca, .int .i64 h]⟩ w fun e w' => e = .returned (.bool bb) /\ Below w.heap.size w w' := by
 have hno : ∀ {i : Nat} {x : Int}, l[i]? = some x -> ¬ (0 <= x /\ x <= h /\ ∀ (j : Nat) (y : Int), i = j + 1 -> l[j]? = some y -> y < x) -> bb = false := fun hx hn => by
  cases bb with
  | false => rfl
  | true => exact absurd (hb.1 rfl _ _ hx) hn
 refine fEn Tryz.func86 rfl Tryz.ntmps86 rfl rfl (sWn w) ?_
 repeat (first|refine lVa rfl rfl (by first|exact pEv rfl|fail) ?_|refine lNi ?_|refine cRg ?_|refine cSq ?_|refine xTh ?_|refine cBl ?_|fail)
 refine c_loop (ι := Nat) (fun k => k <= l.length /\ ∀ (i : Nat) (x : Int), i < k -> l[i]? = some x -> 0 <= x /\ x <= h /\ ∀ (j : Nat) (y : Int), i = j + 1 -> l[j]? = some y -> y < x) (fun k => [(0, .slice A l.length ca), (1, .int .i64 h), (5, .int .i64 k)]) (fun _ => []) (fun k => l.length - k) 0 ⟨Nat.zero_le _, fun i x hi => absurd hi (Nat.not_lt_zero _)⟩ (by repeat (first|exact .nil|refine .cons rfl (by first|rfl|(congr 1; done)|exact congrArg _ (by omega)|(simp; done)) ?_)) (by repeat (first|exact .nil|refine .keep (by first|rfl|assumption) ?_|refine .drop ?_|exact MSub.refl _)) ?_
 rintro k ⟨hk, hF⟩
 by_cases hlt : k < l.length
 ·obtain ⟨x, hx⟩ : ∃ x, l[k]? = some x := ⟨_, List.getElem?_eq_getElem hlt⟩
  obtain ⟨b1, o1, rfl, h1⟩ := hA k (inE x) (by simp [hx])
  have e1 := ext_of h1
  rw [Nat.mul_one] at e1
  have hno' := fun (_ : Unit) => @hno
  have hF' := fun (_ : Unit) => hF
  have hb' := fun (_ : Unit) => hb
  clear hno hF hb
  by_cases c1 : x < 0
  ·have hc := hno' () hx (fun g => by omega)
   subst hc
   repeat (first|refine lVa rfl rfl (by first|exact pEv rfl|fail) ?_|refine lNi ?_|refine cRg ?_|refine cSq ?_|refine xTh ?_|refine c_true rfl ?_|refine c_dec_t rfl (by first|omega|fail) ?_|refine cBl ?_|refine cSk ?_|refine c_ret ?_|refine xTr ?_|refine xBr ?_|refine c_reads rfl (by decide +kernel) ?_|refine q_val rfl rfl (by first|exact pEv rfl|exact vL0 rfl (by assumption) rfl (by rfl)|exact v_index rfl rfl rfl rfl (by omega) (by omega) (by with_reducible first|exact idx2 _ _|fail)|fail) ?_|refine q_nil ?_|refine q_skip rfl rfl ?_|refine q_dec_t rfl rfl rfl rfl (by first|omega|fail) ?_|fail)
   exact x_ret rfl rfl (by repeat constructor) rfl (fun W hW => ⟨rfl, hW.below⟩)
  by_cases c2 : h < x
  ·have hc := hno' () hx (fun g => by omega)
   subst hc
   repeat (first|refine lVa rfl rfl (by first|exact pEv rfl|fail) ?_|refine lNi ?_|refine cRg ?_|refine cSq ?_|refine xTh ?_|refine c_true rfl ?_|refine c_dec_t rfl (by first|omega|fail) ?_|refine cBl ?_|refine cSk ?_|refine c_ret ?_|refine xTr ?_|refine xBr ?_|refine c_reads rfl (by decide +kernel) ?_|refine q_val rfl rfl (by first|exact pEv rfl|exact vL0 rfl (by assumption) rfl (by rfl)|exact v_index rfl rfl rfl rfl (by omega) (by omega) (by with_reducible first|exact idx2 _ _|fail)|fail) ?_|refine q_nil ?_|refine q_skip rfl rfl ?_|refine q_dec_t rfl rfl rfl rfl (by first|omega|fail) ?_|refine q_dec_f rfl rfl rfl rfl (by first|omega|fail) ?_|fail)
   exact x_ret rfl rfl (by repeat constructor) rfl (fun W hW => ⟨rfl, hW.below⟩)
  cases k with
  | zero =>
   repeat (first|refine lVa rfl rfl (by first|exact v_add rfl rfl (by omega) (by omega)|exact pEv rfl|fail) ?_|refine lNi ?_|refine cRg ?_|refine cSq ?_|refine xTh ?_|refine c_false rfl ?_|refine c_dec_t rfl (by first|omega|fail) ?_|refine cBl ?_|refine cSk ?_|refine x_block ?_|refine c_reads rfl (by decide +kernel) ?_|refine q_val rfl rfl (by first|exact pEv rfl|exact vL0 rfl (by assumption) rfl (by rfl)|exact v_index rfl rfl rfl rfl (by omega) (by omega) (by with_reducible first|exact idx2 _ _|fail)|fail) ?_|refine q_nil ?_|refine q_skip rfl rfl ?_|refine q_dec_f rfl rfl rfl rfl (by first|omega|fail) ?_|fail)
   refine x_back 1 ⟨hlt, fun i y hi hy => ?_⟩ (by omega) (by repeat (first|exact .nil|refine .cons rfl (by first|rfl|(congr 1; done)|exact congrArg _ (by omega)|(simp; done)) ?_)) (by repeat (first|exact .nil|refine .keep (by first|rfl|assumption) ?_|refine .drop ?_|exact MSub.refl _))
   have e : i = 0 := by omega
   subst e
   rw [hx] at hy; cases hy
   exact ⟨by omega, by omega, fun j y hj => by omega⟩
  | succ k =>
   obtain ⟨y, hy⟩ : ∃ y, l[k]? = some y := ⟨_, List.getElem?_eq_getElem (by omega)⟩
   obtain ⟨b2, o2, e2', h2⟩ := hA k (inE y) (by simp [hy])
   cases e2'
   have e2 : Ext w (base w) b1 (o1 + (((k + 1 : Nat) : Int) - 1).toNat) (inE y) := by
    have := ext_of h2
    rw [Nat.mul_one] at this
    rw [show (((k + 1 : Nat) : Int) - 1).toNat = k by omega]; exact this
   have hk1 : (0 : Int) < ((k + 1 : Nat) : Int) := by omega
   by_cases c3 : x <= y
   ·have hc := hno' () hx (fun g => by have := g.2.2 k y rfl hy; omega)
    subst hc
    repeat (first|refine lVa rfl rfl (by first|exact pEv rfl|fail) ?_|refine lNi ?_|refine cRg ?_|refine cSq ?_|refine xTh ?_|refine c_dec_t rfl (by first|omega|fail) ?_|refine cBl ?_|refine cSk ?_|refine c_ret ?_|refine xTr ?_|refine xBr ?_|refine c_reads rfl (by decide +kernel) ?_|refine q_val rfl rfl (by first|exact v_sub rfl rfl (by omega) (by omega)|exact pEv rfl|exact vL0 rfl (by assumption) rfl (by rfl)|exact v_index rfl rfl rfl rfl (by omega) (by omega) (by with_reducible first|exact idx2 _ _|exact idx6 _ _|fail)|fail) ?_|refine q_nil ?_|refine q_dec_t rfl rfl rfl rfl (by first|omega|fail) ?_|refine q_dec_f rfl rfl rfl rfl (by first|omega|fail) ?_|fail)
    exact x_ret rfl rfl (by repeat constructor) rfl (fun W hW => ⟨rfl, hW.below⟩)
   ·repeat (first|refine lVa rfl rfl (by first|exact v_add rfl rfl (by omega) (by omega)|exact pEv rfl|fail) ?_|refine lNi ?_|refine cRg ?_|refine cSq ?_|refine xTh ?_|refine c_dec_t rfl (by first|omega|fail) ?_|refine c_dec_f rfl (by first|omega|fail) ?_|refine cBl ?_|refine cSk ?_|refine x_block ?_|refine c_reads rfl (by decide +kernel) ?_|refine q_val rfl rfl (by first|exact v_sub rfl rfl (by omega) (by omega)|exact pEv rfl|exact vL0 rfl (by assumption) rfl (by rfl)|exact v_index rfl rfl rfl rfl (by omega) (by omega) (by with_reducible first|exact idx2 _ _|exact idx6 _ _|fail)|fail) ?_|refine q_nil ?_|refine q_dec_t rfl rfl rfl rfl (by first|omega|fail) ?_|refine q_dec_f rfl rfl rfl rfl (by first|omega|fail) ?_|fail)
    refine x_back (k + 1 + 1) ⟨hlt, fun i z hi hz => ?_⟩ (by omega) (by repeat (first|exact .nil|refine .cons rfl (by first|rfl|(congr 1; done)|exact congrArg _ (by omega)|(simp; done)) ?_)) (by repeat (first|exact .nil|refine .keep (by first|rfl|assumption) ?_|refine .drop ?_|exact MSub.refl _))
    by_cases hik : i < k + 1
    ·exact hF' () i z hik hz
    ·have e : i = k + 1 := by omega
     subst e
     rw [hx] at hz; cases hz
     refine ⟨by omega, by omega, fun j u hj hu => ?_⟩
     have e : j = k := by omega
     subst e
     rw [hy] at hu; cases hu
     omega
 ·have hkl : k = l.length := by omega
  subst hkl
  have hc : bb = true := hb.2 fun i x hx => hF i x (List.getElem?_eq_some_iff.1 hx).1 hx
  subst hc
  clear hno hF hb
  repeat (first|refine lVa rfl rfl (by first|exact pEv rfl|fail) ?_|refine lNi ?_|refine cRg ?_|refine cSq ?_|refine xTh ?_|refine c_dec_f rfl (by first|omega|fail) ?_|refine c_ret ?_|refine c_exit ?_|refine xTe ?_|refine xBs ?_|fail)
  exact x_ret rfl rfl (by repeat constructor) rfl (fun W hW => ⟨rfl, hW.below⟩)
end R24
end Go.Proofs

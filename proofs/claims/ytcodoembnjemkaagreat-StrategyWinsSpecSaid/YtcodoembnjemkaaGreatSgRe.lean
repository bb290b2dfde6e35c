/- Games on networks: a strategy is read, walked. -/
import Derived.Test.YtcodoembnjemkaaGreatSgTab
import Derived.Test.YtcodoembnjemkaaGreatEng41
set_option maxRecDepth 100000
set_option maxHeartbeats 400000000
set_option linter.unusedSectionVars false
set_option linter.unusedVariables false
set_option linter.unusedSimpArgs false
namespace Go.Proofs
open Go.RowKit Go.Kin Go.Kin.St Go.Kin.Ct Go.Kin.Sg
namespace R24
theorem read_calls (u : R23.Un) (T : Int) (S : Option Addr) (cs : Nat) (rows : List DW) (w : World) (hA : u.In w) (hl : u.L.length <= 1000) (hc : u.C.length <= 1000) (hS : StrIn w S rows) (hrl : rows.length <= 10000000) (hdl : ∀ r ∈ rows, r.l.length <= 1000 /\ r.d.length <= 1000) :
  Calls Tryz.prog 21 ⟨[.agg ⟨u.v⟩, .int .i64 T, .slice S rows.length cs]⟩ w (RdQ u.n u.L u.C T rows w) := by
 have hck : ∀ (mem : List (Nat × Obj)) (W : World), SatW w (base w) noJ mem W -> Calls Tryz.prog 17 ⟨[.agg ⟨u.v⟩, .int .i64 T]⟩ W fun e w' => e = .returned (.int .i64 (chkS u.n u.L u.C T)) /\ Below W.heap.size W w' := fun mem W hW => CheckS_calls u T W (hA.sat hW) hl hc
 obtain ⟨n, A, cap, L, B, cab, C⟩ := u
 simp only [R23.Un.v] at hl hc hck ⊢
 refine fun_enter Tryz.func21 rfl Tryz.ntmps21 rfl rfl (satW_nil w) ?_
 repeat (first|refine l_val rfl rfl (by first|exact pureEval_ok rfl|exact v_load rfl (by repeat constructor) rfl (by rfl)|fail) ?_|refine l_nil ?_|refine c_region ?_|refine c_seq ?_|refine x_then ?_|refine r_box rfl rfl rfl rfl (fun _ => ?_)|fail)
 refine r_call rfl rfl rfl (fun W hW => hck _ W hW) ?_
 by_cases h0 : chkS n L C T = 0
 rotate_left
 ·repeat (first|refine l_val rfl rfl (by first|exact pureEval_ok rfl|fail) ?_|refine l_nil ?_|refine c_region ?_|refine c_seq ?_|refine x_then ?_|refine c_dec_t rfl (by first|omega|fail) ?_|refine c_ret ?_|refine x_then_ret ?_|fail)
  exact x_ret rfl rfl (by repeat (first|exact .nil|(apply Res.tmp; rfl)|(apply Res.cell; rfl; exact (by repeat constructor); rfl; rfl))) rfl (fun W hW => ⟨hW.below, .inl ⟨by rw [rdC_a h0]; exact h0, by rw [rdC_a h0]⟩⟩)
 rw [h0]
 by_cases h2 : 4096 < rows.length
 ·have hr := rdC_2 (n := n) (L := L) (C := C) (T := T) h0 h2
  repeat (first|refine l_val rfl rfl (by first|exact pureEval_ok rfl|fail) ?_|refine l_nil ?_|refine c_region ?_|refine c_seq ?_|refine x_then ?_|refine c_false rfl ?_|refine c_dec_t rfl (by first|omega|fail) ?_|refine c_skip ?_|refine c_ret ?_|refine x_then_ret ?_|fail)
  exact x_ret rfl rfl (by repeat (first|exact .nil|(apply Res.tmp; rfl)|(apply Res.cell; rfl; exact (by repeat constructor); rfl; rfl))) rfl (fun W hW => ⟨hW.below, .inl ⟨by rw [hr]; decide, by rw [hr]⟩⟩)
 obtain ⟨c0, t1, t2, t3, t4, t5⟩ := chkS_ok h0
 obtain ⟨n1, n2⟩ := R23.chkU_ok c0
 obtain ⟨t, rfl⟩ : ∃ t : Nat, T = t := ⟨T.toNat, by omega⟩
 obtain ⟨N, rfl⟩ : ∃ N : Nat, n = N := ⟨n.toNat, by omega⟩
 have hno : ∀ {i : Nat} {r : DW}, rows[i]? = some r -> ¬ okR N t rows i r -> rdC N L C t rows = 240 := fun {i r} hr hn => rdC_no h0 h2 fun h => hn (by have := h i r hr; simpa using this)
 repeat (first|refine l_val rfl rfl (by first|exact pureEval_ok rfl|fail) ?_|refine l_nil ?_|refine c_region ?_|refine c_seq ?_|refine x_then ?_|refine r_makeMap rfl rfl (fun _ => ?_)|refine c_false rfl ?_|refine c_dec_f rfl (by first|omega|fail) ?_|refine c_block ?_|refine c_skip ?_|fail)
 rename_i b3 bm
 refine c_loop (ι := Nat) (fun i => i <= rows.length /\ ∀ j r, j < i -> rows[j]? = some r -> okR N t rows j r) (fun i => [(1, .int .i64 t), (2, .slice S rows.length cs), (3, .pointer (some ⟨b3, 0, none⟩)), (6, .map (some bm)), (26, .slice S rows.length cs), (27, .int .i64 rows.length), (28, .int .i64 i)])
  (fun i => [(bm, pkO (kvR (rows.take i))), (b3, .cells ⟨[.int .i64 N, .slice A L.length cap, .slice B C.length cab]⟩ 24 (0, 0))]) (fun i => rows.length - i) 0 ⟨Nat.zero_le _, fun j r hj => by omega⟩ (by repeat (first|exact .nil|refine .cons rfl (by first|rfl|(congr 1; done)|exact congrArg _ (by omega)|(simp; done)) ?_)) (by repeat (first|exact .nil|refine .keep (by first|rfl|assumption) ?_|refine .drop ?_|exact MSub.refl _)) ?_
 rintro i ⟨hi, hF⟩
 by_cases hlt : i < rows.length
 ·obtain ⟨r, hr⟩ : ∃ r, rows[i]? = some r := ⟨_, List.getElem?_eq_getElem hlt⟩
  have hrm := List.mem_of_getElem? hr
  obtain ⟨bS, oS, hSe, hcr⟩ := hS.r i (dwE r) (by rw [List.getElem?_map, hr]; rfl)
  have he := ext_of hcr
  obtain ⟨hd1, hd2⟩ := hdl r hrm
  have hatk := hS.k r hrm
  have hatd := hS.d r hrm
  subst hSe
  repeat ((fail_if_success refine c_probe (id := 10) ?_); (fail_if_success refine c_probe1 (id := 10) ?_); first|refine l_val rfl rfl (by first|exact pureEval_ok rfl|exact v_load_ext0 rfl (by assumption) rfl (by rfl)|exact v_index rfl rfl rfl rfl (by omega) (by omega) (by with_reducible first|exact idx4 _ _ _|fail)|fail) ?_|refine l_nil ?_|refine c_region ?_|refine c_seq ?_|refine x_then ?_|refine r_alloc rfl rfl rfl (by first|exact aggL|fail) (fun _ => ?_)|refine r_store rfl rfl rfl rfl rfl rfl rfl (by repeat constructor) (by rfl) ?_|refine c_dec_t rfl (by first|omega|fail) ?_|refine c_block ?_|refine c_skip ?_|fail)
  repeat refine c_seq ?_
  have hbad : ∀ {X : Prop}, X -> (okR N t rows i r -> ¬ X) -> rdC N L C t rows = 240 := fun hx hi => hno hr fun h => hi h hx
  by_cases a1 : r.k < 0
  ·have hcode := hbad a1 fun h => by have := h.k0; omega
   refine c_new 0 0 [(33, .cal (.int .i64 0))] [(33, [])] [] rfl (by decide +kernel) rfl ?_
   repeat (first|refine e_val rfl rfl rfl rfl (by first|exact pureEval_ok rfl|exact v_load rfl (by repeat constructor) rfl (by rfl)|fail) ?_|fail)
   rw [decide_eq_true a1]
   repeat (first|refine l_val rfl rfl (by first|exact pureEval_ok rfl|fail) ?_|refine l_nil ?_|refine c_region ?_|refine c_seq ?_|refine x_then ?_|refine c_true rfl ?_|refine c_ret ?_|refine x_then_ret ?_|refine x_block_ret ?_|refine e_val rfl rfl rfl rfl (by first|exact pureEval_ok rfl|exact v_load rfl (by repeat constructor) rfl (by rfl)|fail) ?_|refine e_skip rfl rfl ?_|refine e_nil rfl ?_|fail)
   exact x_ret rfl rfl (by repeat (first|exact .nil|(apply Res.tmp; rfl)|(apply Res.cell; rfl; exact (by repeat constructor); rfl; rfl))) rfl (fun W hW => ⟨hW.below, .inl ⟨by rw [hcode]; decide, by rw [hcode]⟩⟩)
  have e1 : decide (r.k < 0) = false := decide_eq_false a1
  by_cases a2 : (t : Int) < r.k
  ·have hcode := hbad a2 fun h => by have := h.kT; omega
   refine c_new 0 0 [(33, .cal (.int .i64 0))] [(33, [])] [] rfl (by decide +kernel) rfl ?_
   repeat (first|refine e_val rfl rfl rfl rfl (by first|exact pureEval_ok rfl|exact v_load rfl (by repeat constructor) rfl (by rfl)|fail) ?_|fail)
   rw [e1]
   repeat (first|refine e_val rfl rfl rfl rfl (by first|exact pureEval_ok rfl|exact v_load rfl (by repeat constructor) rfl (by rfl)|fail) ?_|fail)
   rw [decide_eq_true a2]
   repeat (first|refine l_val rfl rfl (by first|exact pureEval_ok rfl|fail) ?_|refine l_nil ?_|refine c_region ?_|refine c_seq ?_|refine x_then ?_|refine c_true rfl ?_|refine c_ret ?_|refine x_then_ret ?_|refine x_block_ret ?_|refine e_val rfl rfl rfl rfl (by first|exact pureEval_ok rfl|exact v_load rfl (by repeat constructor) rfl (by rfl)|fail) ?_|refine e_skip rfl rfl ?_|refine e_nil rfl ?_|fail)
   exact x_ret rfl rfl (by repeat (first|exact .nil|(apply Res.tmp; rfl)|(apply Res.cell; rfl; exact (by repeat constructor); rfl; rfl))) rfl (fun W hW => ⟨hW.below, .inl ⟨by rw [hcode]; decide, by rw [hcode]⟩⟩)
  have e2 : decide ((t : Int) < r.k) = false := decide_eq_false a2
  by_cases a3 : (r.l.length : Int) ≠ N
  ·have hcode := hbad a3 fun h => by have := h.l; omega
   refine c_new 0 0 [(33, .cal (.int .i64 0))] [(33, [])] [] rfl (by decide +kernel) rfl ?_
   repeat (first|refine e_val rfl rfl rfl rfl (by first|exact pureEval_ok rfl|exact v_load rfl (by repeat constructor) rfl (by rfl)|fail) ?_|fail)
   rw [e1]
   repeat (first|refine e_val rfl rfl rfl rfl (by first|exact pureEval_ok rfl|exact v_load rfl (by repeat constructor) rfl (by rfl)|fail) ?_|fail)
   rw [e2]
   repeat (first|refine e_val rfl rfl rfl rfl (by first|exact pureEval_ok rfl|exact v_load rfl (by repeat constructor) rfl (by rfl)|fail) ?_|fail)
   rw [decide_eq_true a3]
   repeat (first|refine l_val rfl rfl (by first|exact pureEval_ok rfl|fail) ?_|refine l_nil ?_|refine c_region ?_|refine c_seq ?_|refine x_then ?_|refine c_true rfl ?_|refine c_ret ?_|refine x_then_ret ?_|refine x_block_ret ?_|refine e_val rfl rfl rfl rfl (by first|exact pureEval_ok rfl|exact v_load rfl (by repeat constructor) rfl (by rfl)|fail) ?_|refine e_skip rfl rfl ?_|refine e_nil rfl ?_|fail)
   exact x_ret rfl rfl (by repeat (first|exact .nil|(apply Res.tmp; rfl)|(apply Res.cell; rfl; exact (by repeat constructor); rfl; rfl))) rfl (fun W hW => ⟨hW.below, .inl ⟨by rw [hcode]; decide, by rw [hcode]⟩⟩)
  have e3 : decide ((r.l.length : Int) ≠ N) = false := decide_eq_false a3
  have hln : r.l.length = N := by omega
  by_cases a4 : (r.d.length : Int) = 0
  ·have hcode := hbad a4 fun h => by have := List.length_pos_iff.2 h.d; omega
   refine c_new 0 0 [(33, .cal (.int .i64 0))] [(33, [])] [] rfl (by decide +kernel) rfl ?_
   repeat (first|refine e_val rfl rfl rfl rfl (by first|exact pureEval_ok rfl|exact v_load rfl (by repeat constructor) rfl (by rfl)|fail) ?_|fail)
   rw [e1]
   repeat (first|refine e_val rfl rfl rfl rfl (by first|exact pureEval_ok rfl|exact v_load rfl (by repeat constructor) rfl (by rfl)|fail) ?_|fail)
   rw [e2]
   repeat (first|refine e_val rfl rfl rfl rfl (by first|exact pureEval_ok rfl|exact v_load rfl (by repeat constructor) rfl (by rfl)|fail) ?_|fail)
   rw [e3]
   repeat (first|refine e_val rfl rfl rfl rfl (by first|exact pureEval_ok rfl|exact v_load rfl (by repeat constructor) rfl (by rfl)|fail) ?_|fail)
   rw [decide_eq_true a4]
   repeat (first|refine l_val rfl rfl (by first|exact pureEval_ok rfl|fail) ?_|refine l_nil ?_|refine c_region ?_|refine c_seq ?_|refine x_then ?_|refine c_true rfl ?_|refine c_ret ?_|refine x_then_ret ?_|refine x_block_ret ?_|refine e_val rfl rfl rfl rfl (by first|exact pureEval_ok rfl|exact v_load rfl (by repeat constructor) rfl (by rfl)|fail) ?_|refine e_skip rfl rfl ?_|refine e_nil rfl ?_|fail)
   exact x_ret rfl rfl (by repeat (first|exact .nil|(apply Res.tmp; rfl)|(apply Res.cell; rfl; exact (by repeat constructor); rfl; rfl))) rfl (fun W hW => ⟨hW.below, .inl ⟨by rw [hcode]; decide, by rw [hcode]⟩⟩)
  have e4 : decide ((r.d.length : Int) = 0) = false := decide_eq_false a4
  rename_i b9
  obtain ⟨bp, hbp⟩ : ∃ bp : Bool, bp = true ↔ ¬ okP rows i r := ⟨@decide _ (Classical.propDecidable _), @decide_eq_true_iff _ (Classical.propDecidable _)⟩
  refine c_share [(1, .int .i64 t), (2, .slice (some ⟨bS, oS, none⟩) rows.length cs), (3, .pointer (some ⟨b3, 0, none⟩)), (6, .map (some bm)), (9, .pointer (some ⟨b9, 0, none⟩)), (26, .slice (some ⟨bS, oS, none⟩) rows.length cs), (27, .int .i64 rows.length), (28, .int .i64 i), (69, .bool bp)]
   [(b9, .cells ⟨dwE r⟩ 39 (0, 0)), (bm, pkO (kvR (rows.take i))), (b3, .cells ⟨[.int .i64 N, .slice A L.length cap, .slice B C.length cab]⟩ 24 (0, 0))] ?_ (fun hsh => ?_)
  rotate_left
  ·cases i with
   | zero =>
    have hpp : okP rows 0 r := fun j p h => by cases h
    have ed : bp = false := by
     cases bp with
     | false => rfl
     | true => exact absurd hpp (hbp.1 rfl)
    subst ed
    refine c_new 0 0 [(33, .cal (.int .i64 0))] [(33, [])] [] rfl (by decide +kernel) rfl ?_
    repeat (first|refine e_val rfl rfl rfl rfl (by first|exact pureEval_ok rfl|exact v_load rfl (by repeat constructor) rfl (by rfl)|fail) ?_|fail)
    rw [e1]
    repeat (first|refine e_val rfl rfl rfl rfl (by first|exact pureEval_ok rfl|exact v_load rfl (by repeat constructor) rfl (by rfl)|fail) ?_|fail)
    rw [e2]
    repeat (first|refine e_val rfl rfl rfl rfl (by first|exact pureEval_ok rfl|exact v_load rfl (by repeat constructor) rfl (by rfl)|fail) ?_|fail)
    rw [e3]
    repeat (first|refine e_val rfl rfl rfl rfl (by first|exact pureEval_ok rfl|exact v_load rfl (by repeat constructor) rfl (by rfl)|fail) ?_|fail)
    rw [e4]
    repeat (first|exact hsh (by repeat (first|exact .nil|refine .cons rfl (by first|rfl|(congr 1; done)|exact congrArg _ (by omega)|(simp; done)) ?_)) (by repeat (first|exact .nil|refine .keep (by first|rfl|assumption) ?_|refine .drop ?_|exact MSub.refl _))|refine e_val rfl rfl rfl rfl (by first|exact pureEval_ok rfl|exact v_load rfl (by repeat constructor) rfl (by rfl)|fail) ?_|refine e_skip rfl rfl ?_|refine e_nil rfl ?_|fail)
   | succ j =>
    have hxr : rows[j]? = some rows[j] := List.getElem?_eq_getElem (by omega)
    obtain ⟨x, hx⟩ : ∃ x, rows[j] = x := ⟨_, rfl⟩
    rw [hx] at hxr
    have hxm := List.mem_of_getElem? hxr
    have hox := hF j x (Nat.lt_succ_self j) hxr
    obtain ⟨bS', oS', hSe', hcx⟩ := hS.r j (dwE x) (by rw [List.getElem?_map, hxr]; rfl)
    cases hSe'
    have he2 : Ext w (base w) bS (oS + (((j + 1 : Nat) : Int) - 1).toNat * 3) (dwE x) := by
     rw [show (((j + 1 : Nat) : Int) - 1).toNat = j by omega]; exact ext_of hcx
    have hpk : okP rows (j + 1) r ↔ cmpK x.k x.l r.k r.l < 0 := ⟨fun h => h j x rfl hxr, fun h j' p e hp => by
     cases e
     rw [hxr] at hp; cases hp; exact h⟩
    have hcl : ∀ {mem : List (Nat × Obj)} {W : World}, SatW w (base w) noJ mem W -> Calls Tryz.prog 50 ⟨[.agg ⟨dwE x⟩, .agg ⟨dwE r⟩]⟩ W fun e w' => e = .returned (.int .i64 (cmpK x.k x.l r.k r.l)) /\ Below W.heap.size W w' := fun {mem W} hW =>
     compare_dw x r N hox.l hln (by omega) (by omega) W ((hS.k x hxm).sat hW) (hatk.sat hW)
    refine c_new 0 0 [(33, .cal (.int .i64 (cmpK x.k x.l r.k r.l)))] [(33, [])] [] rfl (by decide +kernel) rfl ?_
    repeat (first|refine e_val rfl rfl rfl rfl (by first|exact pureEval_ok rfl|exact v_load rfl (by repeat constructor) rfl (by rfl)|fail) ?_|fail)
    rw [e1]
    repeat (first|refine e_val rfl rfl rfl rfl (by first|exact pureEval_ok rfl|exact v_load rfl (by repeat constructor) rfl (by rfl)|fail) ?_|fail)
    rw [e2]
    repeat (first|refine e_val rfl rfl rfl rfl (by first|exact pureEval_ok rfl|exact v_load rfl (by repeat constructor) rfl (by rfl)|fail) ?_|fail)
    rw [e3]
    repeat (first|refine e_val rfl rfl rfl rfl (by first|exact pureEval_ok rfl|exact v_load rfl (by repeat constructor) rfl (by rfl)|fail) ?_|fail)
    rw [e4]
    repeat (first|refine e_val rfl rfl rfl rfl (by first|exact pureEval_ok rfl|fail) ?_|fail)
    rw [decide_eq_true (show (0 : Int) < ((j + 1 : Nat) : Int) by omega)]
    repeat (first|refine e_val rfl rfl rfl rfl (by first|exact v_sub rfl rfl (by omega) (by omega)|exact pureEval_ok rfl|exact v_load rfl (by repeat constructor) rfl (by rfl)|exact v_load_ext0 rfl (by assumption) rfl (by rfl)|exact v_index rfl rfl rfl rfl (by omega) (by omega) (by with_reducible first|exact idx8 _ _ _|fail)|fail) ?_|fail)
    refine e_call rfl rfl rfl rfl rfl (fun W hW => hcl hW) ?_
    have ed : bp = decide (0 <= cmpK x.k x.l r.k r.l) := by
     rw [Bool.eq_iff_iff, hbp, hpk, decide_eq_true_iff]; omega
    subst ed
    repeat (first|exact hsh (by repeat (first|exact .nil|refine .cons rfl (by first|rfl|(congr 1; done)|exact congrArg _ (by omega)|(simp; done)) ?_)) (by repeat (first|exact .nil|refine .keep (by first|rfl|assumption) ?_|refine .drop ?_|exact MSub.refl _))|refine e_val rfl rfl rfl rfl (by first|exact pureEval_ok rfl|fail) ?_|refine e_nil rfl ?_|fail)
  ·cases bp with
   | true =>
    have hcode := hbad (hbp.1 rfl) fun h h2 => h2 h.p
    repeat (first|refine l_val rfl rfl (by first|exact pureEval_ok rfl|fail) ?_|refine l_nil ?_|refine c_region ?_|refine c_seq ?_|refine x_then ?_|refine c_true rfl ?_|refine c_ret ?_|refine x_then_ret ?_|refine x_block_ret ?_|fail)
    exact x_ret rfl rfl (by repeat (first|exact .nil|(apply Res.tmp; rfl)|(apply Res.cell; rfl; exact (by repeat constructor); rfl; rfl))) rfl (fun W hW => ⟨hW.below, .inl ⟨by rw [hcode]; decide, by rw [hcode]⟩⟩)
   | false =>
    have hpp : okP rows i r := Classical.byContradiction fun h => by cases hbp.2 h
    have hdne : r.d ≠ [] := fun e => a4 (by rw [e]; rfl)
    have hlne : r.l ≠ [] := fun e => by rw [e] at hln; simp at hln; omega
    obtain ⟨bd, od, hDe, hcd⟩ := at_cells hatd hdne
    obtain ⟨bk, ok, hKe, hck⟩ := at_cells hatk hlne
    have hdv : Value.slice r.D r.d.length r.cd = .slice (some ⟨bd, od, none⟩) r.d.length r.cd := by rw [hDe]
    have hkv : Value.slice r.K r.l.length r.ck = .slice (some ⟨bk, ok, none⟩) r.l.length r.ck := by rw [hKe]
    repeat ((fail_if_success refine c_probe (id := 14) ?_); (fail_if_success refine c_probe1 (id := 14) ?_); first|refine l_val rfl rfl (by first|exact pureEval_ok rfl|exact v_load rfl (by repeat constructor) rfl (by rfl)|fail) ?_|refine l_nil ?_|refine c_region ?_|refine c_seq ?_|refine x_then ?_|refine c_false rfl ?_|refine c_block ?_|refine c_skip ?_|fail)
    rw [hdv]
    refine c_loop (ι := Nat) (fun j => j <= r.d.length /\ ∀ i x, i < j -> r.d[i]? = some x -> pv r.d i < x /\ x < N)
     (fun j => [(1, .int .i64 t), (2, .slice (some ⟨bS, oS, none⟩) rows.length cs), (3, .pointer (some ⟨b3, 0, none⟩)), (6, .map (some bm)), (9, .pointer (some ⟨b9, 0, none⟩)), (26, .slice (some ⟨bS, oS, none⟩) rows.length cs), (27, .int .i64 rows.length), (28, .int .i64 i), (10, .int .i64 (pv r.d j)), (71, .slice (some ⟨bd, od, none⟩) r.d.length r.cd), (72, .int .i64 r.d.length), (73, .int .i64 j)])
     (fun _ => [(b9, .cells ⟨dwE r⟩ 39 (0, 0)), (bm, pkO (kvR (rows.take i))), (b3, .cells ⟨[.int .i64 N, .slice A L.length cap, .slice B C.length cab]⟩ 24 (0, 0))]) (fun j => r.d.length - j) 0 ⟨Nat.zero_le _, fun i x h => absurd h (Nat.not_lt_zero _)⟩ (by repeat (first|exact .nil|refine .cons rfl (by first|rfl|(congr 1; done)|exact congrArg _ (by omega)|(simp; done)) ?_)) (by repeat (first|exact .nil|refine .keep (by first|rfl|assumption) ?_|refine .drop ?_|exact MSub.refl _)) ?_
    rintro j ⟨hj, hJ⟩
    by_cases hjt : j < r.d.length
    ·have hx : r.d[j]? = some (pv r.d (j + 1)) := by
      show _ = some (r.d.getD j 0)
      rw [List.getD_eq_getElem?_getD, List.getElem?_eq_getElem hjt]; rfl
     obtain ⟨x, hxe⟩ : ∃ x, pv r.d (j + 1) = x := ⟨_, rfl⟩
     have hx0 := hx
     rw [hxe] at hx
     have hxd : Ext w (base w) bd (od + j) [.int .i64 x] := ext_of fun q v hq => by
      cases q with
      | zero => cases hq; exact hcd j x hx
      | succ q => cases hq
     by_cases x1 : x <= pv r.d j
     ·have hcode := hbad x1 fun h => by have := (h.o j x hx).1; omega
      repeat (first|refine l_val rfl rfl (by first|exact pureEval_ok rfl|exact v_load_ext0 rfl (by assumption) rfl (by rfl)|exact v_index rfl rfl rfl rfl (by omega) (by omega) (by with_reducible first|exact idx2 _ _|fail)|fail) ?_|refine l_nil ?_|refine c_region ?_|refine c_seq ?_|refine x_then ?_|refine l_skip rfl rfl ?_|refine c_true rfl ?_|refine c_dec_t rfl (by first|omega|fail) ?_|refine c_block ?_|refine c_skip ?_|refine c_ret ?_|refine x_then_ret ?_|refine x_block_ret ?_|refine l_dec_t rfl rfl rfl rfl rfl (by first|omega|fail) ?_|fail)
      exact x_ret rfl rfl (by repeat (first|exact .nil|(apply Res.tmp; rfl)|(apply Res.cell; rfl; exact (by repeat constructor); rfl; rfl))) rfl (fun W hW => ⟨hW.below, .inl ⟨by rw [hcode]; decide, by rw [hcode]⟩⟩)
     by_cases x2 : (N : Int) <= x
     ·have hcode := hbad x2 fun h => by have := (h.o j x hx).2; omega
      repeat (first|refine l_val rfl rfl (by first|exact pureEval_ok rfl|exact v_load rfl (by repeat constructor) rfl (by rfl)|exact v_load_ext0 rfl (by assumption) rfl (by rfl)|exact v_index rfl rfl rfl rfl (by omega) (by omega) (by with_reducible first|exact idx2 _ _|fail)|fail) ?_|refine l_nil ?_|refine c_region ?_|refine c_seq ?_|refine x_then ?_|refine c_dec_t rfl (by first|omega|fail) ?_|refine c_block ?_|refine c_skip ?_|refine c_ret ?_|refine x_then_ret ?_|refine x_block_ret ?_|refine l_dec_f rfl rfl rfl rfl rfl (by first|omega|fail) ?_|fail)
      exact x_ret rfl rfl (by repeat (first|exact .nil|(apply Res.tmp; rfl)|(apply Res.cell; rfl; exact (by repeat constructor); rfl; rfl))) rfl (fun W hW => ⟨hW.below, .inl ⟨by rw [hcode]; decide, by rw [hcode]⟩⟩)
     repeat (first|refine l_val rfl rfl (by first|exact v_add rfl rfl (by omega) (by omega)|exact pureEval_ok rfl|exact v_load rfl (by repeat constructor) rfl (by rfl)|exact v_load_ext0 rfl (by assumption) rfl (by rfl)|exact v_index rfl rfl rfl rfl (by omega) (by omega) (by with_reducible first|exact idx2 _ _|fail)|fail) ?_|refine l_nil ?_|refine c_region ?_|refine c_seq ?_|refine x_then ?_|refine c_dec_t rfl (by first|omega|fail) ?_|refine c_dec_f rfl (by first|omega|fail) ?_|refine c_block ?_|refine c_skip ?_|refine x_block ?_|refine l_dec_f rfl rfl rfl rfl rfl (by first|omega|fail) ?_|fail)
     rw [<- hxe]
     refine x_back (j + 1) ⟨hjt, fun i' x' hi' hx' => ?_⟩ (by omega) (by repeat (first|exact .nil|refine .cons rfl (by first|rfl|(congr 1; done)|exact congrArg _ (by omega)|(simp; done)) ?_)) (by repeat (first|exact .nil|refine .keep (by first|rfl|assumption) ?_|refine .drop ?_|exact MSub.refl _))
     by_cases hij : i' < j
     ·exact hJ i' x' hij hx'
     ·have e : i' = j := by omega
      subst e
      rw [hx] at hx'; cases hx'
      exact ⟨by omega, by omega⟩
    have hjl : j = r.d.length := by omega
    subst hjl
    have hokd : okD N r.d := fun i' x' hx' => hJ i' x' (List.getElem?_eq_some_iff.1 hx').1 hx'
    repeat ((fail_if_success refine c_probe (id := 22) ?_); (fail_if_success refine c_probe1 (id := 22) ?_); first|refine l_val rfl rfl (by first|exact pureEval_ok rfl|exact v_load rfl (by repeat constructor) rfl (by rfl)|exact v_build rfl rfl (by rfl)|fail) ?_|refine l_nil ?_|refine c_region ?_|refine c_seq ?_|refine x_then ?_|refine r_alloc rfl rfl rfl (by first|exact aggL|fail) (fun _ => ?_)|refine r_store rfl rfl rfl rfl rfl rfl rfl (by repeat constructor) (by rfl) ?_|refine c_dec_f rfl (by first|omega|fail) ?_|refine c_block ?_|refine c_exit ?_|refine x_then_exit ?_|refine x_block_same ?_|fail)
    rename_i b13
    rw [hkv]
    refine c_loop (ι := Nat) (fun j => j <= r.l.length /\ ∀ i' x, i' < j -> r.l[i']? = some x -> 0 <= x /\ x <= r.k + 1)
     (fun j => [(1, .int .i64 t), (2, .slice (some ⟨bS, oS, none⟩) rows.length cs), (3, .pointer (some ⟨b3, 0, none⟩)), (6, .map (some bm)), (9, .pointer (some ⟨b9, 0, none⟩)), (26, .slice (some ⟨bS, oS, none⟩) rows.length cs), (27, .int .i64 rows.length), (28, .int .i64 i), (13, .pointer (some ⟨b13, 0, none⟩)), (92, .slice (some ⟨bk, ok, none⟩) r.l.length r.ck), (93, .int .i64 r.l.length), (94, .int .i64 j)])
     (fun j => [(b13, .cells ⟨plC r.k (lf r.l j)⟩ 54 (0, 0)), (b9, .cells ⟨dwE r⟩ 39 (0, 0)), (bm, pkO (kvR (rows.take i))), (b3, .cells ⟨[.int .i64 N, .slice A L.length cap, .slice B C.length cab]⟩ 24 (0, 0))]) (fun j => r.l.length - j) 0 ⟨Nat.zero_le _, fun i' x h => absurd h (Nat.not_lt_zero _)⟩ (by repeat (first|exact .nil|refine .cons rfl (by first|rfl|(congr 1; done)|exact congrArg _ (by omega)|(simp; done)) ?_)) (by rw [lf_0]; exact (by repeat (first|exact .nil|refine .keep (by first|rfl|assumption) ?_|refine .drop ?_|exact MSub.refl _))) ?_
    rintro j ⟨hj, hJ⟩
    by_cases hjt : j < r.l.length
    ·obtain ⟨x, hxe⟩ : ∃ x, kn r.l j = x := ⟨_, rfl⟩
     have hx : r.l[j]? = some x := by rw [<- hxe]; exact kn_at hjt
     have hxd : Ext w (base w) bk (ok + j) [.int .i64 x] := ext_of fun q v hq => by
      cases q with
      | zero => cases hq; exact hck j x hx
      | succ q => cases hq
     have hst : (plC r.k (lf r.l j)).set (1 + j) (.int .i64 x) = plC r.k (lf r.l (j + 1)) := by rw [plC_set, <- hxe, lf_set]
     by_cases x1 : x < 0
     ·have hcode := hbad x1 fun h => by have := (h.e x (List.mem_of_getElem? hx)).1; omega
      repeat (first|refine l_val rfl rfl (by first|exact pureEval_ok rfl|exact v_load_ext0 rfl (by assumption) rfl (by rfl)|exact v_index rfl rfl rfl rfl (by omega) (by omega) (by with_reducible first|exact idx2 _ _|fail)|fail) ?_|refine l_nil ?_|refine c_region ?_|refine c_seq ?_|refine x_then ?_|refine l_skip rfl rfl ?_|refine c_true rfl ?_|refine c_dec_t rfl (by first|omega|fail) ?_|refine c_block ?_|refine c_skip ?_|refine c_ret ?_|refine x_then_ret ?_|refine x_block_ret ?_|refine l_dec_t rfl rfl rfl rfl rfl (by first|omega|fail) ?_|fail)
      exact x_ret rfl rfl (by repeat (first|exact .nil|(apply Res.tmp; rfl)|(apply Res.cell; rfl; exact (by repeat constructor); rfl; rfl))) rfl (fun W hW => ⟨hW.below, .inl ⟨by rw [hcode]; decide, by rw [hcode]⟩⟩)
     by_cases x2 : r.k + 1 < x
     ·have hcode := hbad x2 fun h => by have := (h.e x (List.mem_of_getElem? hx)).2; omega
      repeat (first|refine l_val rfl rfl (by first|exact v_add rfl rfl (by omega) (by omega)|exact pureEval_ok rfl|exact v_load rfl (by repeat constructor) rfl (by rfl)|exact v_load_ext0 rfl (by assumption) rfl (by rfl)|exact v_index rfl rfl rfl rfl (by omega) (by omega) (by with_reducible first|exact idx2 _ _|fail)|fail) ?_|refine l_nil ?_|refine c_region ?_|refine c_seq ?_|refine x_then ?_|refine c_dec_t rfl (by first|omega|fail) ?_|refine c_block ?_|refine c_skip ?_|refine c_ret ?_|refine x_then_ret ?_|refine x_block_ret ?_|refine l_dec_f rfl rfl rfl rfl rfl (by first|omega|fail) ?_|fail)
      exact x_ret rfl rfl (by repeat (first|exact .nil|(apply Res.tmp; rfl)|(apply Res.cell; rfl; exact (by repeat constructor); rfl; rfl))) rfl (fun W hW => ⟨hW.below, .inl ⟨by rw [hcode]; decide, by rw [hcode]⟩⟩)
     repeat (first|refine r_store_at rfl rfl rfl rfl rfl rfl (by repeat constructor) (by rw [plC_len]; omega) hst ?_|refine l_val rfl rfl (by first|exact v_add rfl rfl (by omega) (by omega)|exact pureEval_ok rfl|exact v_load rfl (by repeat constructor) rfl (by rfl)|exact v_load_ext0 rfl (by assumption) rfl (by rfl)|exact v_index rfl rfl rfl rfl (by omega) (by omega) (by with_reducible first|exact idx2 _ _|fail)|exact v_indexA rfl rfl rfl rfl (by omega) (by omega) (by with_reducible first|exact idx2 _ _|fail)|fail) ?_|refine l_nil ?_|refine c_region ?_|refine c_seq ?_|refine x_then ?_|refine c_dec_t rfl (by first|omega|fail) ?_|refine c_dec_f rfl (by first|omega|fail) ?_|refine c_block ?_|refine c_skip ?_|refine x_block ?_|refine l_dec_f rfl rfl rfl rfl rfl (by first|omega|fail) ?_|fail)
     refine x_back (j + 1) ⟨hjt, fun i' x' hi' hx' => ?_⟩ (by omega) (by repeat (first|exact .nil|refine .cons rfl (by first|rfl|(congr 1; done)|exact congrArg _ (by omega)|(simp; done)) ?_)) (by repeat (first|exact .nil|refine .keep (by first|rfl|assumption) ?_|refine .drop ?_|exact MSub.refl _))
     by_cases hij : i' < j
     ·exact hJ i' x' hij hx'
     ·have e : i' = j := by omega
      subst e
      rw [hx] at hx'; cases hx'
      exact ⟨by omega, by omega⟩
    have hjl : j = r.l.length := by omega
    subst hjl
    rw [lf_all]
    have hokl : okL r.k r.l := fun x hx => by
     obtain ⟨i', hi', rfl⟩ := List.mem_iff_getElem.1 hx
     exact hJ i' _ hi' (List.getElem?_eq_getElem hi')
    have hokr : okR N t rows i r := ⟨by omega, by omega, hln, hdne, hpp, hokd, hokl⟩
    have hF2 : ∀ j r, j < i + 1 -> rows[j]? = some r -> okR N t rows j r := fun j r' hj' hr' => by
     by_cases hji : j < i
     ·exact hF j r' hji hr'
     ·have e : j = i := by omega
      subst e
      rw [hr] at hr'; cases hr'; exact hokr
    have hnew : pkGet (kvR (rows.take i)) r.k (kn r.l) = none := kvR_none (n := N) (by omega) hln fun x hx => by
     refine ⟨?_, kvR_new (n := N) (T := t) (by omega) (i := i) (r := r) hF hr hln hpp x hx⟩
     obtain ⟨j, hj, hxj⟩ := List.mem_take_iff_getElem.1 hx
     exact (hF j x (by omega) (by rw [List.getElem?_eq_getElem (by omega), hxj])).l
    have hsn : kvR (rows.take i) ++ [((r.k, kn r.l), .slice r.D r.d.length r.cd)] = kvR (rows.take (i + 1)) := by
     rw [List.take_add_one, hr]; unfold kvR; rw [List.map_append]; rfl
    have hup : ∀ {rest : List (Nat × Obj)} {x y : Nat × Obj}, Upd (x :: y :: (bm, pkO (kvR (rows.take i))) :: rest) bm (pkO (kvR (rows.take i))) (pkO (kvR (rows.take i) ++ [((r.k, kn r.l), .slice r.D r.d.length r.cd)])) (x :: y :: (bm, pkO (kvR (rows.take (i + 1)))) :: rest) := fun {rest x y} => by rw [hsn]; exact (by repeat constructor)
    repeat (first|refine l_val rfl rfl (by first|exact v_add rfl rfl (by omega) (by omega)|exact pureEval_ok rfl|exact v_load rfl (by repeat constructor) rfl (by rfl)|fail) ?_|refine l_nil ?_|refine c_region ?_|refine c_seq ?_|refine x_then ?_|refine c_dec_f rfl (by first|omega|fail) ?_|refine c_exit ?_|refine x_then_exit ?_|refine x_block ?_|refine x_block_same ?_|refine l_do rfl (d_pkNew (k := r.k) (f := kn r.l) (s := kvR (rows.take i)) rfl rfl rfl rfl pk67 hnew hup) ?_|fail)
    exact x_back (i + 1) ⟨hlt, hF2⟩ (by omega) (by repeat (first|exact .nil|refine .cons rfl (by first|rfl|(congr 1; done)|exact congrArg _ (by omega)|(simp; done)) ?_)) (by repeat (first|exact .nil|refine .keep (by first|rfl|assumption) ?_|refine .drop ?_|exact MSub.refl _))
 ·have hil : i = rows.length := by omega
  subst hil
  rw [List.take_length]
  have hok : okS (N : Int).toNat (t : Int).toNat rows := fun j r hr => by
   rw [Int.toNat_natCast, Int.toNat_natCast]; exact hF j r (List.getElem?_eq_some_iff.1 hr).1 hr
  have hcode := rdC_0 h0 h2 hok
  repeat (first|refine l_val rfl rfl (by first|exact pureEval_ok rfl|fail) ?_|refine l_nil ?_|refine c_region ?_|refine c_seq ?_|refine x_then ?_|refine c_dec_f rfl (by first|omega|fail) ?_|refine c_ret ?_|refine c_exit ?_|refine x_then_exit ?_|refine x_block_same ?_|fail)
  refine x_ret rfl rfl (by repeat (first|exact .nil|(apply Res.tmp; rfl)|(apply Res.cell; rfl; exact (by repeat constructor); rfl; rfl))) rfl (fun W hW => ⟨hW.below, .inr ⟨hcode, bm, rfl, ?_⟩⟩)
  have h := hW.own (bm, _) (by repeat constructor)
  exact ⟨Nat.le_of_not_lt h.1, h.2⟩
end R24
end Go.Proofs

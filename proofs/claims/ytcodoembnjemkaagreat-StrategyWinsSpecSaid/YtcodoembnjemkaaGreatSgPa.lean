/- Games on networks: the specification checks a strategy, walked. -/
import Derived.Test.YtcodoembnjemkaaGreatSgQc
import Derived.Test.YtcodoembnjemkaaGreatEng41
import Derived.Test.YtcodoembnjemkaaGreatSgTab
import Derived.Test.YtcodoembnjemkaaGreatSgE
set_option maxRecDepth 100000
set_option maxHeartbeats 400000000
set_option linter.unusedSectionVars false
set_option linter.unusedVariables false
set_option linter.unusedSimpArgs false
namespace Go.Proofs
open Go.RowKit Go.Kin Go.Kin.St Go.Kin.Ct Go.Kin.Sg
namespace R24
theorem cmpL_flip {a b : List Int} (h : a.length = b.length) : cmpL b a <= 0 ↔ ¬ cmpL a b < 0 := by
 constructor
 ·intro g1 g2
  rcases Int.lt_or_eq_of_le g1 with g | g
  ·have := cmpL_trans h h.symm g2 g
   rw [cmpL_same] at this; omega
  ·rw [cmpL_zero h.symm] at g
   rw [g, cmpL_same] at g2; omega
 ·intro g
  rcases cmpL_asym h with g1 | g1 | g1
  ·exact absurd g1 g
  ·rw [g1, cmpL_same]; decide
  ·omega
theorem okP_flip {k1 k2 : Int} {a b : List Int} (h : a.length = b.length) : ¬ cmpK k1 a k2 b < 0 ↔ k2 < k1 ∨ k2 = k1 /\ cmpL b a <= 0 := by
 rw [cmpL_flip h]
 unfold cmpK or2 cmpI
 by_cases h1 : k1 < k2
 ·simp only [h1, if_true]; simp; omega
 ·by_cases h2 : k2 < k1
  ·simp only [h1, h2, if_true, if_false]; simp
  ·have : k1 = k2 := by omega
   subst this
   simp
theorem ckS36_calls (u : R23.Un) (T : Int) (S : Option Addr) (cs : Nat) (rows : List DW) (w : World) (hA : u.In w) (hl : u.L.length <= 1000) (hc : u.C.length <= 1000) (hS : StrIn w S rows) (hrl : rows.length <= 1000000)
  (hdl : ∀ r ∈ rows, r.l.length <= 9223372036854775806 /\ r.d.length <= 9223372036854775806) :
  Calls Tryz.prog 29 ⟨[.agg ⟨u.v⟩, .int .i64 T, .slice S rows.length cs]⟩ w fun e w' => e = .returned (.int .i64 (rdC u.n u.L u.C T rows)) /\ Below w.heap.size w w' := by
 have hck : ∀ (mem : List (Nat × Obj)) (W : World), SatW w (base w) noJ mem W -> Calls Tryz.prog 20 ⟨[.agg ⟨u.v⟩, .int .i64 T]⟩ W fun e w' => e = .returned (.int .i64 (chkS u.n u.L u.C T)) /\ Below W.heap.size W w' := fun mem W hW =>
  CheckR_calls u T W (hA.sat hW) hl hc
 obtain ⟨n, A, cap, L, B, cab, C⟩ := u
 simp only [R23.Un.v] at hl hc hck ⊢
 refine fun_enter Tryz.func29 rfl Tryz.ntmps29 rfl rfl (satW_nil w) ?_
 repeat (first|refine l_val rfl rfl (by first|exact pureEval_ok rfl|exact v_load rfl (by repeat constructor) rfl (by rfl)|fail) ?_|refine l_nil ?_|refine c_region ?_|refine c_seq ?_|refine x_then ?_|refine r_box rfl rfl rfl rfl (fun _ => ?_)|fail)
 refine r_call rfl rfl rfl (fun W hW => hck _ W hW) ?_
 by_cases h0 : chkS n L C T = 0
 rotate_left
 ·repeat (first|refine l_val rfl rfl (by first|exact pureEval_ok rfl|fail) ?_|refine l_nil ?_|refine c_region ?_|refine c_seq ?_|refine x_then ?_|refine c_dec_t rfl (by first|omega|fail) ?_|refine c_ret ?_|refine x_then_ret ?_|fail)
  exact x_ret rfl rfl (by repeat (first|exact .nil|(apply Res.tmp; rfl)|(apply Res.cell; rfl; exact (by repeat constructor); rfl; rfl))) rfl (fun W hW => ⟨by rw [rdC_a h0], hW.below⟩)
 rw [h0]
 by_cases h2 : 4096 < rows.length
 ·have hr := rdC_2 (n := n) (L := L) (C := C) (T := T) h0 h2
  repeat (first|refine l_val rfl rfl (by first|exact pureEval_ok rfl|fail) ?_|refine l_nil ?_|refine c_region ?_|refine c_seq ?_|refine x_then ?_|refine c_false rfl ?_|refine c_dec_t rfl (by first|omega|fail) ?_|refine c_skip ?_|refine c_ret ?_|refine x_then_ret ?_|fail)
  exact x_ret rfl rfl (by repeat (first|exact .nil|(apply Res.tmp; rfl)|(apply Res.cell; rfl; exact (by repeat constructor); rfl; rfl))) rfl (fun W hW => ⟨by rw [hr], hW.below⟩)
 obtain ⟨c0, t1, t2, t3, t4, t5⟩ := chkS_ok h0
 obtain ⟨n1, n2⟩ := R23.chkU_ok c0
 obtain ⟨t, rfl⟩ : ∃ t : Nat, T = t := ⟨T.toNat, by omega⟩
 obtain ⟨N, rfl⟩ : ∃ N : Nat, n = N := ⟨n.toNat, by omega⟩
 have hno : ∀ {i : Nat} {r : DW}, rows[i]? = some r -> ¬ okR N t rows i r -> rdC N L C t rows = 240 := fun {i r} hr hn => rdC_no h0 h2 fun h => hn (by have := h i r hr; simpa using this)
 repeat (first|refine l_val rfl rfl (by first|exact pureEval_ok rfl|fail) ?_|refine l_nil ?_|refine c_region ?_|refine c_seq ?_|refine x_then ?_|refine c_false rfl ?_|refine c_dec_f rfl (by first|omega|fail) ?_|refine c_block ?_|refine c_skip ?_|fail)
 rename_i b3
 refine c_loop (ι := Nat) (fun i => i <= rows.length /\ ∀ j r, j < i -> rows[j]? = some r -> okR N t rows j r) (fun i => [(1, .int .i64 t), (2, .slice S rows.length cs), (3, .pointer (some ⟨b3, 0, none⟩)), (8, .int .i64 i)])
  (fun i => [(b3, .cells ⟨[.int .i64 N, .slice A L.length cap, .slice B C.length cab]⟩ 24 (0, 0))]) (fun i => rows.length - i) 0 ⟨Nat.zero_le _, fun j r hj => by omega⟩ (by repeat (first|exact .nil|refine .cons rfl (by first|rfl|(congr 1; done)|exact congrArg _ (by omega)|(simp; done)) ?_)) (by repeat (first|exact .nil|refine .keep (by first|rfl|assumption) ?_|refine .drop ?_|exact MSub.refl _)) ?_
 rintro i ⟨hi, hF⟩
 by_cases hlt : i < rows.length
 ·obtain ⟨r, hr⟩ : ∃ r, rows[i]? = some r := ⟨_, List.getElem?_eq_getElem hlt⟩
  have hrm := List.mem_of_getElem? hr
  obtain ⟨bS, oS, hSe, hcr⟩ := hS.r i (dwE r) (by rw [List.getElem?_map, hr]; rfl)
  have he := ext_of hcr
  obtain ⟨hd1, hd2⟩ := hdl r hrm
  have hatk := hS.k r hrm
  have hatd := hS.d r hrm
  subst hSe
  obtain ⟨bd, hbd⟩ : ∃ bd : Bool, bd = true ↔ okQ N t r := ⟨@decide _ (Classical.propDecidable _), @decide_eq_true_iff _ (Classical.propDecidable _)⟩
  have hdc : ∀ {mem : List (Nat × Obj)} {W : World}, SatW w (base w) noJ mem W -> Calls Tryz.prog 57 ⟨[.agg ⟨[.int .i64 N, .slice A L.length cap, .slice B C.length cab]⟩, .int .i64 t, .agg ⟨dwE r⟩]⟩ W fun e w' => e = .returned (.bool bd) /\ Below W.heap.size W w' := fun {mem W} hW =>
   dec62_calls N A cap L B cab C t r bd W (by omega) (by omega) (hatk.sat hW) (hatd.sat hW) hd1 hd2 hbd
  repeat ((fail_if_success refine c_probe (id := 9) ?_); (fail_if_success refine c_probe1 (id := 9) ?_); first|refine l_val rfl rfl (by first|exact pureEval_ok rfl|fail) ?_|refine l_nil ?_|refine c_region ?_|refine c_seq ?_|refine x_then ?_|refine c_dec_t rfl (by first|omega|fail) ?_|refine c_block ?_|refine c_skip ?_|fail)
  repeat refine c_seq ?_
  refine c_new 0 0 [(6, .cal (.bool bd))] [(6, [])] [] rfl (by decide +kernel) rfl ?_
  repeat (first|refine e_val rfl rfl rfl rfl (by first|exact pureEval_ok rfl|exact v_load rfl (by repeat constructor) rfl (by rfl)|exact v_load_ext0 rfl (by assumption) rfl (by rfl)|exact v_index rfl rfl rfl rfl (by omega) (by omega) (by with_reducible first|exact idx4 _ _ _|fail)|fail) ?_|fail)
  refine e_call rfl rfl rfl rfl rfl (fun W hW => hdc hW) ?_
  cases bd with
  | false =>
   have hcode := hno hr fun h => absurd (hbd.2 (okR_iff.1 h).1) (by decide)
   repeat (first|refine l_val rfl rfl (by first|exact pureEval_ok rfl|fail) ?_|refine l_nil ?_|refine c_region ?_|refine c_seq ?_|refine x_then ?_|refine c_true rfl ?_|refine c_ret ?_|refine x_then_ret ?_|refine x_block_ret ?_|refine e_val rfl rfl rfl rfl (by first|exact pureEval_ok rfl|fail) ?_|refine e_nil rfl ?_|fail)
   exact x_ret rfl rfl (by repeat (first|exact .nil|(apply Res.tmp; rfl)|(apply Res.cell; rfl; exact (by repeat constructor); rfl; rfl))) rfl (fun W hW => ⟨by rw [hcode], hW.below⟩)
  | true =>
   have hokq := hbd.1 rfl
   repeat ((fail_if_success refine c_probe (id := 12) ?_); (fail_if_success refine c_probe1 (id := 12) ?_); first|refine l_val rfl rfl (by first|exact pureEval_ok rfl|fail) ?_|refine l_nil ?_|refine c_region ?_|refine c_seq ?_|refine x_then ?_|refine c_false rfl ?_|refine c_skip ?_|refine e_val rfl rfl rfl rfl (by first|exact pureEval_ok rfl|fail) ?_|refine e_nil rfl ?_|fail)
   repeat refine c_seq ?_
   cases i with
   | zero =>
    have hpp : okP rows 0 r := fun j p h => by cases h
    have hF2 : ∀ j r, j < 0 + 1 -> rows[j]? = some r -> okR N t rows j r := fun j r' hj' hr' => by
     have e : j = 0 := by omega
     subst e
     rw [hr] at hr'; cases hr'; exact okR_iff.2 ⟨hokq, hpp⟩
    clear hF
    refine c_new 0 0 [(40, .cal (.int .i64 0))] [(40, [])] [] rfl (by decide +kernel) rfl ?_
    repeat (first|refine l_val rfl rfl (by first|exact v_add rfl rfl (by omega) (by omega)|exact pureEval_ok rfl|fail) ?_|refine l_nil ?_|refine c_region ?_|refine x_then ?_|refine c_false rfl ?_|refine c_skip ?_|refine x_block ?_|refine e_val rfl rfl rfl rfl (by first|exact pureEval_ok rfl|fail) ?_|refine e_skip rfl rfl ?_|refine e_nil rfl ?_|fail)
    exact x_back (0 + 1) ⟨hlt, hF2⟩ (by omega) (by repeat (first|exact .nil|refine .cons rfl (by first|rfl|(congr 1; done)|exact congrArg _ (by omega)|(simp; done)) ?_)) (by repeat (first|exact .nil|refine .keep (by first|rfl|assumption) ?_|refine .drop ?_|exact MSub.refl _))
   | succ j =>
    have hxr : rows[j]? = some rows[j] := List.getElem?_eq_getElem (by omega)
    obtain ⟨x, hx⟩ : ∃ x, rows[j] = x := ⟨_, rfl⟩
    rw [hx] at hxr
    have hxm := List.mem_of_getElem? hxr
    have hox := hF j x (Nat.lt_succ_self j) hxr
    have hll : x.l.length = r.l.length := by rw [hox.l, hokq.l]
    obtain ⟨bS', oS', hSe', hcx⟩ := hS.r j (dwE x) (by rw [List.getElem?_map, hxr]; rfl)
    cases hSe'
    have he2 : Ext w (base w) bS (oS + (((j + 1 : Nat) : Int) - 1).toNat * 3) (dwE x) := by
     rw [show (((j + 1 : Nat) : Int) - 1).toNat = j by omega]; exact ext_of hcx
    have hpk : okP rows (j + 1) r ↔ cmpK x.k x.l r.k r.l < 0 := ⟨fun h => h j x rfl hxr, fun h j' p e hp => by
     cases e
     rw [hxr] at hp; cases hp; exact h⟩
    have hbad : r.k < x.k ∨ r.k = x.k /\ cmpL r.l x.l <= 0 -> rdC N L C t rows = 240 := fun g => hno hr fun h => (okP_flip hll).2 g (hpk.1 h.p)
    have hcl : ∀ {mem : List (Nat × Obj)} {W : World}, SatW w (base w) noJ mem W -> Calls Tryz.prog 58 ⟨[.slice r.K r.l.length r.ck, .slice x.K x.l.length x.ck]⟩ W fun e w' => e = .returned (.int .i64 (cmpL r.l x.l)) /\ Below W.heap.size W w' := fun {mem W} hW =>
     cmp63_calls r.K x.K r.ck x.ck r.l x.l W (hatk.sat hW) ((hS.k x hxm).sat hW) hd1 hll.symm
    refine c_new 0 0 [(40, .cal (.int .i64 (cmpL r.l x.l)))] [(40, [])] [] rfl (by decide +kernel) rfl ?_
    by_cases x1 : r.k < x.k
    ·have hcode := hbad (.inl x1)
     clear hF hpk hbad
     repeat (first|refine e_val rfl rfl rfl rfl (by first|exact pureEval_ok rfl|fail) ?_|fail)
     rw [decide_eq_true (show (0 : Int) < ((j + 1 : Nat) : Int) by omega)]
     repeat (first|refine e_val rfl rfl rfl rfl (by first|exact v_sub rfl rfl (by omega) (by omega)|exact pureEval_ok rfl|exact v_load_ext0 rfl (by assumption) rfl (by rfl)|exact v_index rfl rfl rfl rfl (by omega) (by omega) (by with_reducible first|exact idx4 _ _ _|exact idx8 _ _ _|fail)|fail) ?_|fail)
     rw [decide_eq_true x1]
     repeat (first|refine l_val rfl rfl (by first|exact pureEval_ok rfl|fail) ?_|refine l_nil ?_|refine c_region ?_|refine c_seq ?_|refine x_then ?_|refine c_true rfl ?_|refine c_ret ?_|refine x_then_ret ?_|refine x_block_ret ?_|refine e_val rfl rfl rfl rfl (by first|exact pureEval_ok rfl|fail) ?_|refine e_skip rfl rfl ?_|refine e_nil rfl ?_|fail)
     exact x_ret rfl rfl (by repeat (first|exact .nil|(apply Res.tmp; rfl)|(apply Res.cell; rfl; exact (by repeat constructor); rfl; rfl))) rfl (fun W hW => ⟨by rw [hcode], hW.below⟩)
    by_cases x2 : r.k = x.k
    ·by_cases x3 : cmpL r.l x.l <= 0
     ·have hcode := hbad (.inr ⟨x2, x3⟩)
      clear hF hpk hbad
      repeat (first|refine e_val rfl rfl rfl rfl (by first|exact pureEval_ok rfl|fail) ?_|fail)
      rw [decide_eq_true (show (0 : Int) < ((j + 1 : Nat) : Int) by omega)]
      repeat (first|refine e_val rfl rfl rfl rfl (by first|exact v_sub rfl rfl (by omega) (by omega)|exact pureEval_ok rfl|exact v_load_ext0 rfl (by assumption) rfl (by rfl)|exact v_index rfl rfl rfl rfl (by omega) (by omega) (by with_reducible first|exact idx4 _ _ _|exact idx8 _ _ _|fail)|fail) ?_|fail)
      rw [decide_eq_false x1]
      repeat (first|refine e_val rfl rfl rfl rfl (by first|exact v_sub rfl rfl (by omega) (by omega)|exact pureEval_ok rfl|exact v_load_ext0 rfl (by assumption) rfl (by rfl)|exact v_index rfl rfl rfl rfl (by omega) (by omega) (by with_reducible first|exact idx4 _ _ _|exact idx8 _ _ _|fail)|fail) ?_|fail)
      rw [decide_eq_true x2]
      repeat (first|refine e_val rfl rfl rfl rfl (by first|exact v_sub rfl rfl (by omega) (by omega)|exact pureEval_ok rfl|exact v_load_ext rfl (by assumption) rfl (by rfl)|exact v_index rfl rfl rfl rfl (by omega) (by omega) (by with_reducible first|exact idx4 _ _ _|exact idx8 _ _ _|fail)|fail) ?_|fail)
      refine e_call rfl rfl rfl rfl rfl (fun W hW => hcl hW) ?_
      repeat (first|refine l_val rfl rfl (by first|exact pureEval_ok rfl|fail) ?_|refine l_nil ?_|refine c_region ?_|refine c_seq ?_|refine x_then ?_|refine c_dec_t rfl (by first|omega|fail) ?_|refine c_ret ?_|refine x_then_ret ?_|refine x_block_ret ?_|refine e_val rfl rfl rfl rfl (by first|exact pureEval_ok rfl|fail) ?_|refine e_nil rfl ?_|fail)
      exact x_ret rfl rfl (by repeat (first|exact .nil|(apply Res.tmp; rfl)|(apply Res.cell; rfl; exact (by repeat constructor); rfl; rfl))) rfl (fun W hW => ⟨by rw [hcode], hW.below⟩)
     ·have hokr : okR N t rows (j + 1) r := okR_iff.2 ⟨hokq, hpk.2 (Classical.byContradiction fun g => by
       rcases (okP_flip hll).1 g with g | g
       ·omega
       ·exact x3 g.2)⟩
      have hF2 : ∀ i r, i < j + 1 + 1 -> rows[i]? = some r -> okR N t rows i r := fun i r' hj' hr' => by
       by_cases hji : i < j + 1
       ·exact hF i r' hji hr'
       ·have e : i = j + 1 := by omega
        subst e
        rw [hr] at hr'; cases hr'; exact hokr
      clear hF hpk hbad
      repeat (first|refine e_val rfl rfl rfl rfl (by first|exact pureEval_ok rfl|fail) ?_|fail)
      rw [decide_eq_true (show (0 : Int) < ((j + 1 : Nat) : Int) by omega)]
      repeat (first|refine e_val rfl rfl rfl rfl (by first|exact v_sub rfl rfl (by omega) (by omega)|exact pureEval_ok rfl|exact v_load_ext0 rfl (by assumption) rfl (by rfl)|exact v_index rfl rfl rfl rfl (by omega) (by omega) (by with_reducible first|exact idx4 _ _ _|exact idx8 _ _ _|fail)|fail) ?_|fail)
      rw [decide_eq_false x1]
      repeat (first|refine e_val rfl rfl rfl rfl (by first|exact v_sub rfl rfl (by omega) (by omega)|exact pureEval_ok rfl|exact v_load_ext0 rfl (by assumption) rfl (by rfl)|exact v_index rfl rfl rfl rfl (by omega) (by omega) (by with_reducible first|exact idx4 _ _ _|exact idx8 _ _ _|fail)|fail) ?_|fail)
      rw [decide_eq_true x2]
      repeat (first|refine e_val rfl rfl rfl rfl (by first|exact v_sub rfl rfl (by omega) (by omega)|exact pureEval_ok rfl|exact v_load_ext rfl (by assumption) rfl (by rfl)|exact v_index rfl rfl rfl rfl (by omega) (by omega) (by with_reducible first|exact idx4 _ _ _|exact idx8 _ _ _|fail)|fail) ?_|fail)
      refine e_call rfl rfl rfl rfl rfl (fun W hW => hcl hW) ?_
      repeat (first|refine l_val rfl rfl (by first|exact v_add rfl rfl (by omega) (by omega)|exact pureEval_ok rfl|fail) ?_|refine l_nil ?_|refine c_region ?_|refine x_then ?_|refine c_dec_f rfl (by first|omega|fail) ?_|refine c_skip ?_|refine x_block ?_|refine e_val rfl rfl rfl rfl (by first|exact pureEval_ok rfl|fail) ?_|refine e_nil rfl ?_|fail)
      exact x_back (j + 1 + 1) ⟨hlt, hF2⟩ (by omega) (by repeat (first|exact .nil|refine .cons rfl (by first|rfl|(congr 1; done)|exact congrArg _ (by omega)|(simp; done)) ?_)) (by repeat (first|exact .nil|refine .keep (by first|rfl|assumption) ?_|refine .drop ?_|exact MSub.refl _))
    ·have hokr : okR N t rows (j + 1) r := okR_iff.2 ⟨hokq, hpk.2 (Classical.byContradiction fun g => by
      rcases (okP_flip hll).1 g with g | g
      ·omega
      ·exact x2 g.1)⟩
     have hF2 : ∀ i r, i < j + 1 + 1 -> rows[i]? = some r -> okR N t rows i r := fun i r' hj' hr' => by
      by_cases hji : i < j + 1
      ·exact hF i r' hji hr'
      ·have e : i = j + 1 := by omega
       subst e
       rw [hr] at hr'; cases hr'; exact hokr
     clear hF hpk hbad
     repeat (first|refine e_val rfl rfl rfl rfl (by first|exact pureEval_ok rfl|fail) ?_|fail)
     rw [decide_eq_true (show (0 : Int) < ((j + 1 : Nat) : Int) by omega)]
     repeat (first|refine e_val rfl rfl rfl rfl (by first|exact v_sub rfl rfl (by omega) (by omega)|exact pureEval_ok rfl|exact v_load_ext0 rfl (by assumption) rfl (by rfl)|exact v_index rfl rfl rfl rfl (by omega) (by omega) (by with_reducible first|exact idx4 _ _ _|exact idx8 _ _ _|fail)|fail) ?_|fail)
     rw [decide_eq_false x1]
     repeat (first|refine e_val rfl rfl rfl rfl (by first|exact v_sub rfl rfl (by omega) (by omega)|exact pureEval_ok rfl|exact v_load_ext0 rfl (by assumption) rfl (by rfl)|exact v_index rfl rfl rfl rfl (by omega) (by omega) (by with_reducible first|exact idx4 _ _ _|exact idx8 _ _ _|fail)|fail) ?_|fail)
     rw [decide_eq_false x2]
     repeat (first|refine l_val rfl rfl (by first|exact v_add rfl rfl (by omega) (by omega)|exact pureEval_ok rfl|fail) ?_|refine l_nil ?_|refine c_region ?_|refine x_then ?_|refine c_false rfl ?_|refine c_skip ?_|refine x_block ?_|refine e_val rfl rfl rfl rfl (by first|exact pureEval_ok rfl|fail) ?_|refine e_skip rfl rfl ?_|refine e_nil rfl ?_|fail)
     exact x_back (j + 1 + 1) ⟨hlt, hF2⟩ (by omega) (by repeat (first|exact .nil|refine .cons rfl (by first|rfl|(congr 1; done)|exact congrArg _ (by omega)|(simp; done)) ?_)) (by repeat (first|exact .nil|refine .keep (by first|rfl|assumption) ?_|refine .drop ?_|exact MSub.refl _))
 ·have hil : i = rows.length := by omega
  subst hil
  have hok : okS (N : Int).toNat (t : Int).toNat rows := fun j r hr => by
   rw [Int.toNat_natCast, Int.toNat_natCast]; exact hF j r (List.getElem?_eq_some_iff.1 hr).1 hr
  have hcode := rdC_0 h0 h2 hok
  repeat (first|refine l_val rfl rfl (by first|exact pureEval_ok rfl|fail) ?_|refine l_nil ?_|refine c_region ?_|refine c_seq ?_|refine x_then ?_|refine c_dec_f rfl (by first|omega|fail) ?_|refine c_ret ?_|refine c_exit ?_|refine x_then_exit ?_|refine x_block_same ?_|fail)
  exact x_ret rfl rfl (by repeat (first|exact .nil|(apply Res.tmp; rfl)|(apply Res.cell; rfl; exact (by repeat constructor); rfl; rfl))) rfl (fun W hW => ⟨by rw [hcode], hW.below⟩)
end R24
end Go.Proofs

namespace Go
open Go.RowKit Go.Sort
namespace Kin
section
variable {P : Program} {N : Nat} {c : Cx} {env : List (Nat × Value)} {mem : List (Nat × Obj)} {tt : List (TypeId × TI)}
 {ty : TypeId} {pos : String} {af : Array Edge} {g : Option (Nat × Bool)} {dd : Option Tmp}
/-- a known map that lies outside, looked up -/
theorem v_pkGetX [T : TT P tt] {t kt ta ti et b sz bt sz2 bt2 : Nat} {m kx : Operand} {k : Int} {f : Nat -> Int} {s : List ((Int × (Nat -> Int)) × Value)} {z z2 out : Value} {kd : TK} {ok : Bool}
  (hm0 : evOp env m = some (.map (some b))) (hk : evOp env kx = some (.agg ⟨pkC k f⟩)) (ht : look tt t = some ⟨.map kt et, sz, bt, z⟩) (K : PkT P tt kt ta ti) (het : look tt et = some ⟨kd, sz2, bt2, z2⟩)
  (hin : c.w0.heap[b]? = some (pkO s)) (hD : c.D b) (ho : (match pkGet s k f with | some v => (match ok with | true => Value.tuple ⟨[v, .bool true]⟩ | false => v) | none => (match ok with | true => Value.tuple ⟨[z2, .bool false]⟩ | false => z2)) = out) :
  OpVal P N c env mem ⟨dd, .lookup t m kx ok, ty, pos, af, g⟩ out :=
 ⟨rfl, fun a W ha hm => by
  have hb := (hm.same.block b (Array.getElem?_eq_some_iff.1 hin).1 hD).trans hin
  have hmu : P.underlying t = some (.map kt et) := (TT.look (P := P) ht).1
  obtain ⟨_, i, hi, _, _, hz⟩ := TT.look (P := P) het
  have hz2 : (zeroValue et).run P W = .ok z2 W := by
   simp only [zeroValue, Sem.run_bind, run_info hi, Result.andThen_ok, hz]; rfl
  unfold pkO at hb
  have hr := run_findPk K (ents := pkM 0 s) (fun e he => pkM_pk he) k f W
  have hp := pkM_find (k := k) (f := f) s 0 0
  subst ho
  cases hfb : findB (pkB k f) (pkM 0 s) 0 with
  | none =>
   rw [hfb] at hr hp
   rw [<- hp]
   cases ok <;>
   ·simp only [execOp, ha.eval hm0, ha.eval hk, Instr.lookup, Sem.run_bind, run_und hmu, Result.andThen_ok, MapKept.run_getObj_map hb, run_checkPk K, hr, hz2, Sem.run_pure]
    rfl
  | some p =>
   obtain ⟨j, u⟩ := p
   rw [hfb] at hr hp
   rw [<- hp]
   cases ok <;>
   ·simp only [execOp, ha.eval hm0, ha.eval hk, Instr.lookup, Sem.run_bind, run_und hmu, Result.andThen_ok, MapKept.run_getObj_map hb, run_checkPk K, hr, Sem.run_pure]
    rfl⟩
theorem x_part {Q : Exit -> Act -> World -> Prop} {e : Exit} {mem' : List (Nat × Obj)} (extra : List (Nat × Obj)) (hp : mem.Perm (extra ++ mem')) (k : RunX N c Q e env mem') : RunX N c Q e env mem := .mk fun a W ha hm => k.run a W ha ((hm.perm hp).mono (List.sublist_append_right _ _))
end
end Kin
end Go

set_option maxRecDepth 100000
set_option maxHeartbeats 400000000
namespace Go.Proofs
open Go.RowKit Go.Kin Go.Kin.St Go.Kin.Ct Go.Kin.Sg
namespace R24
def capsW (bT bG bM bF : Nat) : List Value := [.pointer (some ⟨bT, 0, none⟩), .pointer (some ⟨bG, 0, none⟩), .pointer (some ⟨bM, 0, none⟩), .pointer (some ⟨bF, 0, none⟩)]
/-- what a walk of a strategy finds -/
structure WEnv (b : GB) (a bT bG bM bF bm fn : Nat) (rows : List DW) (w : World) : Prop where
 g : GIn b a w
 cT : w.cell? ⟨bT, 0, none⟩ = some (.int .i64 b.T)
 cG : w.cell? ⟨bG, 0, none⟩ = some (.pointer (some ⟨a, 0, none⟩))
 cM : w.cell? ⟨bM, 0, none⟩ = some (.map (some bm))
 cF : w.cell? ⟨bF, 0, none⟩ = some (.func (.func fn) ⟨[]⟩ ⟨capsW bT bG bM bF⟩)
 m : w.heap[bm]? = some (pkO (kvR rows))
 d : ∀ r ∈ rows, At w r.D 1 (r.d.map inE)
theorem WEnv.later {b : GB} {a bT bG bM bF bm fn : Nat} {rows : List DW} {w W : World} (h : WEnv b a bT bG bM bF bm fn rows w) (hb : Below w.heap.size w W) : WEnv b a bT bG bM bF bm fn rows W :=
 ⟨h.g.later hb, (hb.cell (lt_of_cell h.cT)).trans h.cT, (hb.cell (lt_of_cell h.cG)).trans h.cG, (hb.cell (lt_of_cell h.cM)).trans h.cM, (hb.cell (lt_of_cell h.cF)).trans h.cF,
  (hb.block _ (Array.getElem?_eq_some_iff.1 h.m).1).trans h.m, fun r hr => (h.d r hr).later hb⟩
theorem ext1 {w : World} {b : Nat} {v : Value} (h : w.cell? ⟨b, 0, none⟩ = some v) : Ext w (base w) b 0 [v] := ext_of fun j u hj => by
 cases j with
 | zero => cases hj; exact h
 | succ j => cases hj
/-- the set that a table gives, as it lies -/
theorem tab_slice {b : GB} {a bT bG bM bF bm fn : Nat} {rows : List DW} {T : Nat} (hok : okS b.n T rows) (k : Nat) (q : List Int) :
  ∃ A cap, (match (rowOf rows k q).map fun r => Value.slice r.D r.d.length r.cd with | some v => v | none => .slice none 0 0) = .slice A (doD (tabW rows) k q).length cap /\ (∀ x ∈ doD (tabW rows) k q, x < b.n) /\ ∀ w, WEnv b a bT bG bM bF bm fn rows w -> At w A 1 ((doD (tabW rows) k q).map nE) := by
 unfold doD tabW
 cases hr : rowOf rows k q with
 | none => exact ⟨none, 0, rfl, fun x hx => (by cases hx), fun w _ i r h => by simp at h⟩
 | some r =>
  obtain ⟨hm, _, _⟩ := rowOf_some hr
  obtain ⟨i, hi, hri⟩ := List.mem_iff_getElem.1 hm
  have ho := (hok i r (by rw [List.getElem?_eq_getElem hi, hri])).o
  refine ⟨r.D, r.cd, ?_, fun x hx => ?_, fun w h => ?_⟩
  ·simp [toN]
  ·simp only [Option.map_some, Option.getD_some, toN] at hx
   obtain ⟨y, hy, rfl⟩ := List.mem_map.1 hx
   obtain ⟨j, hj, rfl⟩ := List.mem_iff_getElem.1 hy
   have := pv_inc ho (List.getElem?_eq_getElem hj)
   omega
  ·have h1 := h.d r hm
   have e : (toN r.d).map nE = r.d.map inE := by
    conv => rhs; rw [<- toN_back ho]
    rw [List.map_map]; rfl
   simp only [Option.map_some, Option.getD_some]
   rw [e]; exact h1
noncomputable def wnB (b : GB) (rows : List DW) (f k : Nat) (l : List Int) : Bool := @decide (Wn b.g (tabW rows) f k l) (Classical.propDecidable _)
theorem wnB_iff {b : GB} {rows : List DW} {f k : Nat} {l : List Int} : wnB b rows f k l = true ↔ Wn b.g (tabW rows) f k l := @decide_eq_true_iff _ (Classical.propDecidable _)
theorem wins49_end (b : GB) (a bT bG bM bF bm : Nat) (rows : List DW) (hb : GOK b) (k : Nat) (hk : k = b.T + 1) (l : List Int) (w : World) (hl : PosN b l) (he : WEnv b a bT bG bM bF bm 23 rows w) :
  Calls Tryz.prog 23 ⟨[] ++ [.agg ⟨plC k (kn l)⟩] ++ capsW bT bG bM bF⟩ w fun e w' => e = .returned (.bool (wnB b rows 0 k l)) /\ Below w.heap.size w w' := by
 have hT := hb.T
 have eT := ext1 he.cT
 have eG := ext1 he.cG
 have hkp : wnB b rows 0 k l = kpB b.g l := rfl
 rw [hkp]
 refine fun_enter Tryz.func23 rfl Tryz.ntmps23 rfl rfl (satW_nil w) ?_
 repeat (first|refine l_val rfl rfl (by first|exact pureEval_ok rfl|exact v_load rfl (by repeat constructor) rfl (by rfl)|exact v_load_ext0 rfl (by assumption) rfl (by rfl)|fail) ?_|refine l_nil ?_|refine c_region ?_|refine c_seq ?_|refine x_then ?_|refine r_box rfl rfl rfl rfl (fun _ => ?_)|refine r_alloc rfl rfl rfl (by first|exact aggL|fail) (fun _ => ?_)|refine c_dec_t rfl (by first|omega|fail) ?_|fail)
 refine r_call rfl rfl rfl (fun W hW => kept_calls b a k l W hb.n hl.1 (fun x hx => by have := hl.2 x hx; omega) hb.l hb.ck (he.later hW.below).g) ?_
 repeat (first|refine l_nil ?_|refine x_then ?_|refine r_store rfl rfl rfl rfl rfl rfl rfl (by repeat constructor) (by rfl) ?_|refine c_ret ?_|refine x_then_ret ?_|fail)
 exact x_ret rfl rfl (by repeat (first|exact .nil|(apply Res.tmp; rfl)|(apply Res.cell; rfl; exact (by repeat constructor); rfl; rfl))) rfl (fun W hW => ⟨rfl, hW.below⟩)
end R24
end Go.Proofs

set_option maxRecDepth 100000
set_option maxHeartbeats 400000000
namespace Go.Proofs
open Go.RowKit Go.Kin Go.Kin.St Go.Kin.Ct Go.Kin.Sg
namespace R24
theorem wait31_calls (b : GB) (a bG bP bU bW k : Nat) (f : Nat -> Int) (A : Option Addr) (cw : Nat) (wt : List Int) (x i : Nat) (y : Lk) (v : Int) (w : World) (hx6 : x < 6) (hk : k <= 1000) (hf : ∀ q, 0 <= f q /\ f q <= 1000) (hiv : iv b.C x = i + 1) (hy : b.C[i]? = some y) (hfr : 0 <= y.fr /\ y.fr < 6) (hc : b.C.length <= 1000)
  (hv : wt[i]? = some v) (hl : wt.length <= 1000) (hg : GIn b a w) (cG : w.cell? ⟨bG, 0, none⟩ = some (.pointer (some ⟨a, 0, none⟩))) (cP : ∀ j u, (plC k f)[j]? = some u -> w.cell? ⟨bP, j, none⟩ = some u) (cU : w.cell? ⟨bU, 2, none⟩ = some (.slice b.B b.C.length b.cb)) (cW : w.cell? ⟨bW, 0, none⟩ = some (.slice A wt.length cw)) (hA : At w A 1 (wt.map inE)) :
  Calls Tryz.prog 42 ⟨[] ++ [.int .i64 x] ++ [.pointer (some ⟨bG, 0, none⟩), .pointer (some ⟨bP, 0, none⟩), .pointer (some ⟨bU, 0, none⟩), .pointer (some ⟨bW, 0, none⟩)]⟩ w fun e w' => e = .returned (.bool (decide ((k : Int) + 1 - f y.fr.toNat ≠ v))) /\ Below w.heap.size w w' := by
 have eG := ext1 cG
 have eW := ext1 cW
 have eU : Ext w (base w) bU 2 [.slice b.B b.C.length b.cb] := ext_of fun j u hj => by
  cases j with
  | zero => cases hj; exact cU
  | succ j => cases hj
 have eP : Ext w (base w) bP 0 (plC k f) := ext_of fun j u hj => by rw [Nat.zero_add]; exact cP j u hj
 have eI : Ext w (base w) a (0 + 4 + x) [.int .i64 (i + 1)] := by
  have := hg.ext.at (cells_iv (b := b) hx6)
  rw [hiv, show 0 + (4 + x) = 0 + 4 + x by omega] at this
  exact this
 obtain ⟨bB, oB, hBe, hcB⟩ := hg.c i (lkE y) (by rw [List.getElem?_map, hy]; rfl)
 have eB := ext_of hcB
 have hil := (List.getElem?_eq_some_iff.1 hy).1
 have hiw := (List.getElem?_eq_some_iff.1 hv).1
 have ei : ((i : Int) + 1 - 1).toNat = i := by omega
 rw [<- ei] at eB
 have eF : Ext w (base w) bP (0 + 1 + y.fr.toNat) [.int .i64 (f y.fr.toNat)] := by
  have := eP.at (plC_get (k := k) (f := f) (q := y.fr.toNat) (by omega))
  rw [show 0 + (1 + y.fr.toNat) = 0 + 1 + y.fr.toNat by omega] at this
  exact this
 have hfy := hf y.fr.toNat
 obtain ⟨bA, oA, hAe, hcA⟩ := hA i (inE v) (by rw [List.getElem?_map, hv]; rfl)
 have eA := ext_of hcA
 rw [Nat.mul_one, <- ei] at eA
 rw [hBe] at eU
 rw [hAe] at eW
 refine fun_enter Tryz.func42 rfl Tryz.ntmps42 rfl rfl (satW_nil w) ?_
 repeat (first|refine l_val rfl rfl (by first|exact v_sub rfl rfl (by omega) (by omega)|exact pureEval_ok rfl|exact v_load_ext0 rfl (by assumption) rfl (by rfl)|exact v_indexA rfl rfl rfl rfl (by omega) (by omega) (by with_reducible first|exact idx2 _ _|fail)|fail) ?_|refine l_nil ?_|refine c_region ?_|refine c_seq ?_|refine x_then ?_|refine c_ret ?_|refine c_reads rfl (by decide +kernel) ?_|refine q_val rfl rfl (by first|exact v_add rfl rfl (by omega) (by omega)|exact v_sub rfl rfl (by omega) (by omega)|exact pureEval_ok rfl|exact v_load_ext0 rfl (by assumption) rfl (by rfl)|exact v_index rfl rfl rfl rfl (by omega) (by omega) (by with_reducible first|exact idx6 _ _|exact idx8 _ _ _|fail)|exact v_indexA rfl rfl rfl rfl (by omega) (by omega) (by with_reducible first|exact idx6 _ _|fail)|fail) ?_|refine q_nil ?_|fail)
 exact x_ret rfl rfl (by repeat (first|exact .nil|(apply Res.tmp; rfl)|(apply Res.cell; rfl; exact (by repeat constructor); rfl; rfl))) rfl (fun W hW => ⟨rfl, hW.below⟩)
end R24
end Go.Proofs

set_option maxRecDepth 100000
set_option maxHeartbeats 400000000
namespace Go.Proofs
open Go.RowKit Go.Kin Go.Kin.St Go.Kin.Ct Go.Kin.Sg
namespace R24
theorem same15_calls (A B : Option Addr) (ca cb : Nat) (l m : List Int) (w : World) (hA : Kin.At w A 1 (l.map inE)) (hB : Kin.At w B 1 (m.map inE)) (hl : l.length <= 9223372036854775806) :
  Calls Tryz.prog 18 ⟨[.slice A l.length ca, .slice B m.length cb]⟩ w fun e w' => e = .returned (.bool (decide (l = m))) /\ Below w.heap.size w w' := by
 refine fun_enter Tryz.func18 rfl Tryz.ntmps18 rfl rfl (satW_nil w) ?_
 by_cases hlm : l.length = m.length
 rotate_left
 ·rw [decide_eq_false fun h => hlm (by rw [h])]
  have hne : (l.length : Int) ≠ m.length := by omega
  repeat (first|refine l_val rfl rfl (by first|exact pureEval_ok rfl|fail) ?_|refine l_nil ?_|refine c_region ?_|refine c_seq ?_|refine x_then ?_|refine c_dec_t rfl (by first|omega|fail) ?_|refine c_ret ?_|refine x_then_ret ?_|fail)
  exact x_ret rfl rfl (by repeat (first|exact .nil|(apply Res.tmp; rfl)|(apply Res.cell; rfl; exact (by repeat constructor); rfl; rfl))) rfl (fun W hW => ⟨rfl, hW.below⟩)
 repeat ((fail_if_success refine c_probe (id := 4) ?_); (fail_if_success refine c_probe1 (id := 4) ?_); first|refine l_val rfl rfl (by first|exact pureEval_ok rfl|fail) ?_|refine l_nil ?_|refine c_region ?_|refine c_seq ?_|refine x_then ?_|refine c_dec_f rfl (by first|omega|exact fun h => h rfl|fail) ?_|refine c_block ?_|refine c_skip ?_|fail)
 refine c_loop (ι := Nat) (fun k => k <= l.length /\ ∀ i, i < k -> l[i]? = m[i]?) (fun k => [(0, .slice A l.length ca), (1, .slice B m.length cb), (5, .int .i64 k)]) (fun _ => []) (fun k => l.length - k) 0 ⟨Nat.zero_le _, fun i hi => absurd hi (Nat.not_lt_zero _)⟩ (by repeat (first|exact .nil|refine .cons rfl (by first|rfl|(congr 1; done)|exact congrArg _ (by omega)|(simp; done)) ?_)) (by repeat (first|exact .nil|refine .keep (by first|rfl|assumption) ?_|refine .drop ?_|exact MSub.refl _)) ?_
 rintro k ⟨hk, hE⟩
 by_cases hlt : k < l.length
 ·obtain ⟨x, hx⟩ : ∃ x, l[k]? = some x := ⟨_, List.getElem?_eq_getElem hlt⟩
  obtain ⟨y, hy⟩ : ∃ y, m[k]? = some y := ⟨_, List.getElem?_eq_getElem (by omega)⟩
  obtain ⟨b1, o1, rfl, h1⟩ := hA k (inE x) (by simp [hx])
  obtain ⟨b2, o2, rfl, h2⟩ := hB k (inE y) (by simp [hy])
  have e1 := ext_of h1
  have e2 := ext_of h2
  rw [Nat.mul_one] at e1 e2
  by_cases hxy : x = y
  ·repeat (first|refine l_val rfl rfl (by first|exact v_add rfl rfl (by omega) (by omega)|exact pureEval_ok rfl|fail) ?_|refine l_nil ?_|refine c_region ?_|refine c_seq ?_|refine x_then ?_|refine c_dec_t rfl (by first|omega|fail) ?_|refine c_dec_f rfl (by first|omega|exact fun h => h rfl|fail) ?_|refine c_block ?_|refine c_skip ?_|refine x_block ?_|refine c_reads rfl (by decide +kernel) ?_|refine q_val rfl rfl (by first|exact pureEval_ok rfl|exact v_load_ext0 rfl (by assumption) rfl (by rfl)|exact v_index rfl rfl rfl rfl (by omega) (by omega) (by with_reducible first|exact idx2 _ _|fail)|fail) ?_|refine q_nil ?_|fail)
   refine x_back (k + 1) ⟨hlt, fun i hi => ?_⟩ (by omega) (by repeat (first|exact .nil|refine .cons rfl (by first|rfl|(congr 1; done)|exact congrArg _ (by omega)|(simp; done)) ?_)) (by repeat (first|exact .nil|refine .keep (by first|rfl|assumption) ?_|refine .drop ?_|exact MSub.refl _))
   by_cases hik : i < k
   ·exact hE i hik
   ·have e : i = k := by omega
    subst e; rw [hx, hy, hxy]
  ·rw [decide_eq_false fun h => hxy (by rw [h, hy] at hx; exact (Option.some.inj hx).symm)]
   repeat (first|refine l_val rfl rfl (by first|exact pureEval_ok rfl|fail) ?_|refine l_nil ?_|refine c_region ?_|refine c_seq ?_|refine x_then ?_|refine c_dec_t rfl (by first|omega|fail) ?_|refine c_block ?_|refine c_skip ?_|refine c_ret ?_|refine x_then_ret ?_|refine x_block_ret ?_|refine c_reads rfl (by decide +kernel) ?_|refine q_val rfl rfl (by first|exact pureEval_ok rfl|exact v_load_ext0 rfl (by assumption) rfl (by rfl)|exact v_index rfl rfl rfl rfl (by omega) (by omega) (by with_reducible first|exact idx2 _ _|fail)|fail) ?_|refine q_nil ?_|fail)
   exact x_ret rfl rfl (by repeat (first|exact .nil|(apply Res.tmp; rfl)|(apply Res.cell; rfl; exact (by repeat constructor); rfl; rfl))) rfl (fun W hW => ⟨rfl, hW.below⟩)
 ·have hkl : k = l.length := by omega
  subst hkl
  have he : l = m := List.ext_getElem? fun i => by
   by_cases hi : i < l.length
   ·exact hE i hi
   ·rw [List.getElem?_eq_none (by omega), List.getElem?_eq_none (by omega)]
  rw [decide_eq_true he]
  repeat (first|refine l_val rfl rfl (by first|exact pureEval_ok rfl|fail) ?_|refine l_nil ?_|refine c_region ?_|refine c_seq ?_|refine x_then ?_|refine c_dec_f rfl (by first|omega|fail) ?_|refine c_ret ?_|refine c_exit ?_|refine x_then_exit ?_|refine x_block_same ?_|fail)
  exact x_ret rfl rfl (by repeat (first|exact .nil|(apply Res.tmp; rfl)|(apply Res.cell; rfl; exact (by repeat constructor); rfl; rfl))) rfl (fun W hW => ⟨rfl, hW.below⟩)
theorem lacks34_calls (v : Int) (bx : Nat) (T : Option Addr) (cap : Nat) (t : List Int) (w : World) (hB : w.cell? ⟨bx, 0, none⟩ = some (.slice T t.length cap)) (hT : Kin.At w T 1 (t.map inE)) (hl : t.length <= 9223372036854775807) :
  Calls Tryz.prog 44 ⟨[] ++ [.int .i64 v] ++ [.pointer (some ⟨bx, 0, none⟩)]⟩ w fun e w' => e = .returned (.bool (!t.contains v)) /\ Below w.heap.size w w' := by
 have hE : Ext w (base w) bx 0 [.slice T t.length cap] := ext_of fun j v hj => by
  cases j with
  | zero => cases hj; exact hB
  | succ j => cases hj
 refine fun_enter Tryz.func44 rfl Tryz.ntmps44 rfl rfl (satW_nil w) ?_
 repeat (first|refine l_val rfl rfl (by first|exact pureEval_ok rfl|exact v_load_ext0 rfl (by assumption) rfl (by rfl)|fail) ?_|refine l_nil ?_|refine c_region ?_|refine c_seq ?_|refine x_then ?_|fail)
 refine r_call rfl rfl rfl (fun W hW => contains_calls v T cap t W (hT.sat hW) hl) ?_
 repeat (first|refine l_val rfl rfl (by first|exact pureEval_ok rfl|fail) ?_|refine l_nil ?_|refine x_then ?_|refine c_ret ?_|fail)
 exact x_ret rfl rfl (by repeat (first|exact .nil|(apply Res.tmp; rfl)|(apply Res.cell; rfl; exact (by repeat constructor); rfl; rfl))) rfl (fun W hW => ⟨rfl, hW.below⟩)
end R24
end Go.Proofs

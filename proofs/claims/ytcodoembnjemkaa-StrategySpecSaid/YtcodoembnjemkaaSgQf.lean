/- Games on networks: the specification checks a strategy, walked. -/
import Derived.Test.YtcodoembnjemkaaSgQc
import Derived.Test.YtcodoembnjemkaaSgPd
set_option maxRecDepth 100000
set_option maxHeartbeats 400000000
set_option linter.unusedSectionVars false
set_option linter.unusedVariables false
set_option linter.unusedSimpArgs false
namespace Go.Proofs
open Go.RowKit Go.Kin Go.Kin.St Go.Kin.Ct Go.Kin.Sg
namespace R24
theorem cmpL_flip {a b : List Int} (h : a.length = b.length) : cmpL b a <= 0 ↔ ¬ cmpL a b < 0 := by
 constructor
 ·intro g1 g2
  rcases Int.lt_or_eq_of_le g1 with g | g
  ·have := cmpL_trans h h.symm g2 g
   rw [cmpL_same] at this; omega
  ·rw [cmpL_zero h.symm] at g
   rw [g, cmpL_same] at g2; omega
 ·intro g
  rcases cmpL_asym h with g1 | g1 | g1
  ·exact absurd g1 g
  ·rw [g1, cmpL_same]; decide
  ·omega
theorem okP_flip {k1 k2 : Int} {a b : List Int} (h : a.length = b.length) : ¬ cmpK k1 a k2 b < 0 ↔ k2 < k1 ∨ k2 = k1 /\ cmpL b a <= 0 := by
 rw [cmpL_flip h]
 unfold cmpK or2 cmpI
 by_cases h1 : k1 < k2
 ·simp only [h1, if_true]; simp; omega
 ·by_cases h2 : k2 < k1
  ·simp only [h1, h2, if_true, if_false]; simp
  ·have : k1 = k2 := by omega
   subst this
   simp
theorem ckS36_calls (u : R23.Un) (T : Int) (S : Option Addr) (cs : Nat) (rows : List DW) (w : World) (hA : u.In w) (hl : u.L.length <= 1000) (hc : u.C.length <= 1000) (hS : StrIn w S rows) (hrl : rows.length <= 1000000)
  (hdl : ∀ r ∈ rows, r.l.length <= 9223372036854775806 /\ r.d.length <= 9223372036854775806) :
  Calls Try.prog 36 ⟨[.agg ⟨u.v⟩, .int .i64 T, .slice S rows.length cs]⟩ w fun e w' => e = .returned (.int .i64 (rdC u.n u.L u.C T rows)) /\ Below w.heap.size w w' := by
 have hck : ∀ (mem : List (Nat × Obj)) (W : World), SatW w (base w) noJ mem W -> Calls Try.prog 14 ⟨[.agg ⟨u.v⟩, .int .i64 T]⟩ W fun e w' => e = .returned (.int .i64 (chkS u.n u.L u.C T)) /\ Below W.heap.size W w' := fun mem W hW =>
  CheckR_calls u T W (hA.sat hW) hl hc
 obtain ⟨n, A, cap, L, B, cab, C⟩ := u
 simp only [R23.Un.v] at hl hc hck ⊢
 refine fun_enter Try.func36 rfl Try.ntmps36 rfl rfl (satW_nil w) ?_
 repeat (first|refine l_val rfl rfl (by first|exact pureEval_ok rfl|exact v_load rfl (by repeat constructor) rfl (by rfl)|fail) ?_|refine l_nil ?_|refine c_region ?_|refine c_seq ?_|refine x_then ?_|refine r_box rfl rfl rfl rfl (fun _ => ?_)|fail)
 refine r_call rfl rfl rfl (fun W hW => hck _ W hW) ?_
 by_cases h0 : chkS n L C T = 0
 rotate_left
 ·repeat (first|refine l_val rfl rfl (by first|exact pureEval_ok rfl|fail) ?_|refine l_nil ?_|refine c_region ?_|refine c_seq ?_|refine x_then ?_|refine c_dec_t rfl (by first|omega|fail) ?_|refine c_ret ?_|refine x_then_ret ?_|fail)
  exact x_ret rfl rfl (by repeat (first|exact .nil|(apply Res.tmp; rfl)|(apply Res.cell; rfl; exact (by repeat constructor); rfl; rfl))) rfl (fun W hW => ⟨by rw [rdC_a h0], hW.below⟩)
 rw [h0]
 by_cases h2 : 4096 < rows.length
 ·have hr := rdC_2 (n := n) (L := L) (C := C) (T := T) h0 h2
  repeat (first|refine l_val rfl rfl (by first|exact pureEval_ok rfl|fail) ?_|refine l_nil ?_|refine c_region ?_|refine c_seq ?_|refine x_then ?_|refine c_false rfl ?_|refine c_dec_t rfl (by first|omega|fail) ?_|refine c_skip ?_|refine c_ret ?_|refine x_then_ret ?_|fail)
  exact x_ret rfl rfl (by repeat (first|exact .nil|(apply Res.tmp; rfl)|(apply Res.cell; rfl; exact (by repeat constructor); rfl; rfl))) rfl (fun W hW => ⟨by rw [hr], hW.below⟩)
 obtain ⟨c0, t1, t2, t3, t4, t5⟩ := chkS_ok h0
 obtain ⟨n1, n2⟩ := R23.chkU_ok c0
 obtain ⟨t, rfl⟩ : ∃ t : Nat, T = t := ⟨T.toNat, by omega⟩
 obtain ⟨N, rfl⟩ : ∃ N : Nat, n = N := ⟨n.toNat, by omega⟩
 have hno : ∀ {i : Nat} {r : DW}, rows[i]? = some r -> ¬ okR N t rows i r -> rdC N L C t rows = 240 := fun {i r} hr hn => rdC_no h0 h2 fun h => hn (by have := h i r hr; simpa using this)
 repeat (first|refine l_val rfl rfl (by first|exact pureEval_ok rfl|fail) ?_|refine l_nil ?_|refine c_region ?_|refine c_seq ?_|refine x_then ?_|refine c_false rfl ?_|refine c_dec_f rfl (by first|omega|fail) ?_|refine c_block ?_|refine c_skip ?_|fail)
 rename_i b3
 refine c_loop (ι := Nat) (fun i => i <= rows.length /\ ∀ j r, j < i -> rows[j]? = some r -> okR N t rows j r) (fun i => [(1, .int .i64 t), (2, .slice S rows.length cs), (3, .pointer (some ⟨b3, 0, none⟩)), (8, .int .i64 i)])
  (fun i => [(b3, .cells ⟨[.int .i64 N, .slice A L.length cap, .slice B C.length cab]⟩ 24 (0, 0))]) (fun i => rows.length - i) 0 ⟨Nat.zero_le _, fun j r hj => by omega⟩ (by repeat (first|exact .nil|refine .cons rfl (by first|rfl|(congr 1; done)|exact congrArg _ (by omega)|(simp; done)) ?_)) (by repeat (first|exact .nil|refine .keep (by first|rfl|assumption) ?_|refine .drop ?_|exact MSub.refl _)) ?_
 rintro i ⟨hi, hF⟩
 by_cases hlt : i < rows.length
 ·obtain ⟨r, hr⟩ : ∃ r, rows[i]? = some r := ⟨_, List.getElem?_eq_getElem hlt⟩
  have hrm := List.mem_of_getElem? hr
  obtain ⟨bS, oS, hSe, hcr⟩ := hS.r i (dwE r) (by rw [List.getElem?_map, hr]; rfl)
  have he := ext_of hcr
  obtain ⟨hd1, hd2⟩ := hdl r hrm
  have hatk := hS.k r hrm
  have hatd := hS.d r hrm
  subst hSe
  obtain ⟨bd, hbd⟩ : ∃ bd : Bool, bd = true ↔ okQ N t r := ⟨@decide _ (Classical.propDecidable _), @decide_eq_true_iff _ (Classical.propDecidable _)⟩
  have hdc : ∀ {mem : List (Nat × Obj)} {W : World}, SatW w (base w) noJ mem W -> Calls Try.prog 62 ⟨[.agg ⟨[.int .i64 N, .slice A L.length cap, .slice B C.length cab]⟩, .int .i64 t, .agg ⟨dwE r⟩]⟩ W fun e w' => e = .returned (.bool bd) /\ Below W.heap.size W w' := fun {mem W} hW =>
   dec62_calls N A cap L B cab C t r bd W (by omega) (by omega) (hatk.sat hW) (hatd.sat hW) hd1 hd2 hbd
  repeat ((fail_if_success refine c_probe (id := 9) ?_); (fail_if_success refine c_probe1 (id := 9) ?_); first|refine l_val rfl rfl (by first|exact pureEval_ok rfl|fail) ?_|refine l_nil ?_|refine c_region ?_|refine c_seq ?_|refine x_then ?_|refine c_dec_t rfl (by first|omega|fail) ?_|refine c_block ?_|refine c_skip ?_|fail)
  repeat refine c_seq ?_
  refine c_new 0 0 [(6, .cal (.bool bd))] [(6, [])] [] rfl (by decide +kernel) rfl ?_
  repeat (first|refine e_val rfl rfl rfl rfl (by first|exact pureEval_ok rfl|exact v_load rfl (by repeat constructor) rfl (by rfl)|exact v_load_ext0 rfl (by assumption) rfl (by rfl)|exact v_index rfl rfl rfl rfl (by omega) (by omega) (by with_reducible first|exact idx4 _ _ _|fail)|fail) ?_|fail)
  refine e_call rfl rfl rfl rfl rfl (fun W hW => hdc hW) ?_
  cases bd with
  | false =>
   have hcode := hno hr fun h => absurd (hbd.2 (okR_iff.1 h).1) (by decide)
   repeat (first|refine l_val rfl rfl (by first|exact pureEval_ok rfl|fail) ?_|refine l_nil ?_|refine c_region ?_|refine c_seq ?_|refine x_then ?_|refine c_true rfl ?_|refine c_ret ?_|refine x_then_ret ?_|refine x_block_ret ?_|refine e_val rfl rfl rfl rfl (by first|exact pureEval_ok rfl|fail) ?_|refine e_nil rfl ?_|fail)
   exact x_ret rfl rfl (by repeat (first|exact .nil|(apply Res.tmp; rfl)|(apply Res.cell; rfl; exact (by repeat constructor); rfl; rfl))) rfl (fun W hW => ⟨by rw [hcode], hW.below⟩)
  | true =>
   have hokq := hbd.1 rfl
   repeat ((fail_if_success refine c_probe (id := 12) ?_); (fail_if_success refine c_probe1 (id := 12) ?_); first|refine l_val rfl rfl (by first|exact pureEval_ok rfl|fail) ?_|refine l_nil ?_|refine c_region ?_|refine c_seq ?_|refine x_then ?_|refine c_false rfl ?_|refine c_skip ?_|refine e_val rfl rfl rfl rfl (by first|exact pureEval_ok rfl|fail) ?_|refine e_nil rfl ?_|fail)
   repeat refine c_seq ?_
   cases i with
   | zero =>
    have hpp : okP rows 0 r := fun j p h => by cases h
    have hF2 : ∀ j r, j < 0 + 1 -> rows[j]? = some r -> okR N t rows j r := fun j r' hj' hr' => by
     have e : j = 0 := by omega
     subst e
     rw [hr] at hr'; cases hr'; exact okR_iff.2 ⟨hokq, hpp⟩
    clear hF
    refine c_new 0 0 [(40, .cal (.int .i64 0))] [(40, [])] [] rfl (by decide +kernel) rfl ?_
    repeat (first|refine l_val rfl rfl (by first|exact v_add rfl rfl (by omega) (by omega)|exact pureEval_ok rfl|fail) ?_|refine l_nil ?_|refine c_region ?_|refine x_then ?_|refine c_false rfl ?_|refine c_skip ?_|refine x_block ?_|refine e_val rfl rfl rfl rfl (by first|exact pureEval_ok rfl|fail) ?_|refine e_skip rfl rfl ?_|refine e_nil rfl ?_|fail)
    exact x_back (0 + 1) ⟨hlt, hF2⟩ (by omega) (by repeat (first|exact .nil|refine .cons rfl (by first|rfl|(congr 1; done)|exact congrArg _ (by omega)|(simp; done)) ?_)) (by repeat (first|exact .nil|refine .keep (by first|rfl|assumption) ?_|refine .drop ?_|exact MSub.refl _))
   | succ j =>
    have hxr : rows[j]? = some rows[j] := List.getElem?_eq_getElem (by omega)
    obtain ⟨x, hx⟩ : ∃ x, rows[j] = x := ⟨_, rfl⟩
    rw [hx] at hxr
    have hxm := List.mem_of_getElem? hxr
    have hox := hF j x (Nat.lt_succ_self j) hxr
    have hll : x.l.length = r.l.length := by rw [hox.l, hokq.l]
    obtain ⟨bS', oS', hSe', hcx⟩ := hS.r j (dwE x) (by rw [List.getElem?_map, hxr]; rfl)
    cases hSe'
    have he2 : Ext w (base w) bS (oS + (((j + 1 : Nat) : Int) - 1).toNat * 3) (dwE x) := by
     rw [show (((j + 1 : Nat) : Int) - 1).toNat = j by omega]; exact ext_of hcx
    have hpk : okP rows (j + 1) r ↔ cmpK x.k x.l r.k r.l < 0 := ⟨fun h => h j x rfl hxr, fun h j' p e hp => by
     cases e
     rw [hxr] at hp; cases hp; exact h⟩
    have hbad : r.k < x.k ∨ r.k = x.k /\ cmpL r.l x.l <= 0 -> rdC N L C t rows = 240 := fun g => hno hr fun h => (okP_flip hll).2 g (hpk.1 h.p)
    have hcl : ∀ {mem : List (Nat × Obj)} {W : World}, SatW w (base w) noJ mem W -> Calls Try.prog 63 ⟨[.slice r.K r.l.length r.ck, .slice x.K x.l.length x.ck]⟩ W fun e w' => e = .returned (.int .i64 (cmpL r.l x.l)) /\ Below W.heap.size W w' := fun {mem W} hW =>
     cmp63_calls r.K x.K r.ck x.ck r.l x.l W (hatk.sat hW) ((hS.k x hxm).sat hW) hd1 hll.symm
    refine c_new 0 0 [(40, .cal (.int .i64 (cmpL r.l x.l)))] [(40, [])] [] rfl (by decide +kernel) rfl ?_
    by_cases x1 : r.k < x.k
    ·have hcode := hbad (.inl x1)
     clear hF hpk hbad
     repeat (first|refine e_val rfl rfl rfl rfl (by first|exact pureEval_ok rfl|fail) ?_|fail)
     rw [decide_eq_true (show (0 : Int) < ((j + 1 : Nat) : Int) by omega)]
     repeat (first|refine e_val rfl rfl rfl rfl (by first|exact v_sub rfl rfl (by omega) (by omega)|exact pureEval_ok rfl|exact v_load_ext0 rfl (by assumption) rfl (by rfl)|exact v_index rfl rfl rfl rfl (by omega) (by omega) (by with_reducible first|exact idx4 _ _ _|exact idx8 _ _ _|fail)|fail) ?_|fail)
     rw [decide_eq_true x1]
     repeat (first|refine l_val rfl rfl (by first|exact pureEval_ok rfl|fail) ?_|refine l_nil ?_|refine c_region ?_|refine c_seq ?_|refine x_then ?_|refine c_true rfl ?_|refine c_ret ?_|refine x_then_ret ?_|refine x_block_ret ?_|refine e_val rfl rfl rfl rfl (by first|exact pureEval_ok rfl|fail) ?_|refine e_skip rfl rfl ?_|refine e_nil rfl ?_|fail)
     exact x_ret rfl rfl (by repeat (first|exact .nil|(apply Res.tmp; rfl)|(apply Res.cell; rfl; exact (by repeat constructor); rfl; rfl))) rfl (fun W hW => ⟨by rw [hcode], hW.below⟩)
    by_cases x2 : r.k = x.k
    ·by_cases x3 : cmpL r.l x.l <= 0
     ·have hcode := hbad (.inr ⟨x2, x3⟩)
      clear hF hpk hbad
      repeat (first|refine e_val rfl rfl rfl rfl (by first|exact pureEval_ok rfl|fail) ?_|fail)
      rw [decide_eq_true (show (0 : Int) < ((j + 1 : Nat) : Int) by omega)]
      repeat (first|refine e_val rfl rfl rfl rfl (by first|exact v_sub rfl rfl (by omega) (by omega)|exact pureEval_ok rfl|exact v_load_ext0 rfl (by assumption) rfl (by rfl)|exact v_index rfl rfl rfl rfl (by omega) (by omega) (by with_reducible first|exact idx4 _ _ _|exact idx8 _ _ _|fail)|fail) ?_|fail)
      rw [decide_eq_false x1]
      repeat (first|refine e_val rfl rfl rfl rfl (by first|exact v_sub rfl rfl (by omega) (by omega)|exact pureEval_ok rfl|exact v_load_ext0 rfl (by assumption) rfl (by rfl)|exact v_index rfl rfl rfl rfl (by omega) (by omega) (by with_reducible first|exact idx4 _ _ _|exact idx8 _ _ _|fail)|fail) ?_|fail)
      rw [decide_eq_true x2]
      repeat (first|refine e_val rfl rfl rfl rfl (by first|exact v_sub rfl rfl (by omega) (by omega)|exact pureEval_ok rfl|exact v_load_ext rfl (by assumption) rfl (by rfl)|exact v_index rfl rfl rfl rfl (by omega) (by omega) (by with_reducible first|exact idx4 _ _ _|exact idx8 _ _ _|fail)|fail) ?_|fail)
      refine e_call rfl rfl rfl rfl rfl (fun W hW => hcl hW) ?_
      repeat (first|refine l_val rfl rfl (by first|exact pureEval_ok rfl|fail) ?_|refine l_nil ?_|refine c_region ?_|refine c_seq ?_|refine x_then ?_|refine c_dec_t rfl (by first|omega|fail) ?_|refine c_ret ?_|refine x_then_ret ?_|refine x_block_ret ?_|refine e_val rfl rfl rfl rfl (by first|exact pureEval_ok rfl|fail) ?_|refine e_nil rfl ?_|fail)
      exact x_ret rfl rfl (by repeat (first|exact .nil|(apply Res.tmp; rfl)|(apply Res.cell; rfl; exact (by repeat constructor); rfl; rfl))) rfl (fun W hW => ⟨by rw [hcode], hW.below⟩)
     ·have hokr : okR N t rows (j + 1) r := okR_iff.2 ⟨hokq, hpk.2 (Classical.byContradiction fun g => by
       rcases (okP_flip hll).1 g with g | g
       ·omega
       ·exact x3 g.2)⟩
      have hF2 : ∀ i r, i < j + 1 + 1 -> rows[i]? = some r -> okR N t rows i r := fun i r' hj' hr' => by
       by_cases hji : i < j + 1
       ·exact hF i r' hji hr'
       ·have e : i = j + 1 := by omega
        subst e
        rw [hr] at hr'; cases hr'; exact hokr
      clear hF hpk hbad
      repeat (first|refine e_val rfl rfl rfl rfl (by first|exact pureEval_ok rfl|fail) ?_|fail)
      rw [decide_eq_true (show (0 : Int) < ((j + 1 : Nat) : Int) by omega)]
      repeat (first|refine e_val rfl rfl rfl rfl (by first|exact v_sub rfl rfl (by omega) (by omega)|exact pureEval_ok rfl|exact v_load_ext0 rfl (by assumption) rfl (by rfl)|exact v_index rfl rfl rfl rfl (by omega) (by omega) (by with_reducible first|exact idx4 _ _ _|exact idx8 _ _ _|fail)|fail) ?_|fail)
      rw [decide_eq_false x1]
      repeat (first|refine e_val rfl rfl rfl rfl (by first|exact v_sub rfl rfl (by omega) (by omega)|exact pureEval_ok rfl|exact v_load_ext0 rfl (by assumption) rfl (by rfl)|exact v_index rfl rfl rfl rfl (by omega) (by omega) (by with_reducible first|exact idx4 _ _ _|exact idx8 _ _ _|fail)|fail) ?_|fail)
      rw [decide_eq_true x2]
      repeat (first|refine e_val rfl rfl rfl rfl (by first|exact v_sub rfl rfl (by omega) (by omega)|exact pureEval_ok rfl|exact v_load_ext rfl (by assumption) rfl (by rfl)|exact v_index rfl rfl rfl rfl (by omega) (by omega) (by with_reducible first|exact idx4 _ _ _|exact idx8 _ _ _|fail)|fail) ?_|fail)
      refine e_call rfl rfl rfl rfl rfl (fun W hW => hcl hW) ?_
      repeat (first|refine l_val rfl rfl (by first|exact v_add rfl rfl (by omega) (by omega)|exact pureEval_ok rfl|fail) ?_|refine l_nil ?_|refine c_region ?_|refine x_then ?_|refine c_dec_f rfl (by first|omega|fail) ?_|refine c_skip ?_|refine x_block ?_|refine e_val rfl rfl rfl rfl (by first|exact pureEval_ok rfl|fail) ?_|refine e_nil rfl ?_|fail)
      exact x_back (j + 1 + 1) ⟨hlt, hF2⟩ (by omega) (by repeat (first|exact .nil|refine .cons rfl (by first|rfl|(congr 1; done)|exact congrArg _ (by omega)|(simp; done)) ?_)) (by repeat (first|exact .nil|refine .keep (by first|rfl|assumption) ?_|refine .drop ?_|exact MSub.refl _))
    ·have hokr : okR N t rows (j + 1) r := okR_iff.2 ⟨hokq, hpk.2 (Classical.byContradiction fun g => by
      rcases (okP_flip hll).1 g with g | g
      ·omega
      ·exact x2 g.1)⟩
     have hF2 : ∀ i r, i < j + 1 + 1 -> rows[i]? = some r -> okR N t rows i r := fun i r' hj' hr' => by
      by_cases hji : i < j + 1
      ·exact hF i r' hji hr'
      ·have e : i = j + 1 := by omega
       subst e
       rw [hr] at hr'; cases hr'; exact hokr
     clear hF hpk hbad
     repeat (first|refine e_val rfl rfl rfl rfl (by first|exact pureEval_ok rfl|fail) ?_|fail)
     rw [decide_eq_true (show (0 : Int) < ((j + 1 : Nat) : Int) by omega)]
     repeat (first|refine e_val rfl rfl rfl rfl (by first|exact v_sub rfl rfl (by omega) (by omega)|exact pureEval_ok rfl|exact v_load_ext0 rfl (by assumption) rfl (by rfl)|exact v_index rfl rfl rfl rfl (by omega) (by omega) (by with_reducible first|exact idx4 _ _ _|exact idx8 _ _ _|fail)|fail) ?_|fail)
     rw [decide_eq_false x1]
     repeat (first|refine e_val rfl rfl rfl rfl (by first|exact v_sub rfl rfl (by omega) (by omega)|exact pureEval_ok rfl|exact v_load_ext0 rfl (by assumption) rfl (by rfl)|exact v_index rfl rfl rfl rfl (by omega) (by omega) (by with_reducible first|exact idx4 _ _ _|exact idx8 _ _ _|fail)|fail) ?_|fail)
     rw [decide_eq_false x2]
     repeat (first|refine l_val rfl rfl (by first|exact v_add rfl rfl (by omega) (by omega)|exact pureEval_ok rfl|fail) ?_|refine l_nil ?_|refine c_region ?_|refine x_then ?_|refine c_false rfl ?_|refine c_skip ?_|refine x_block ?_|refine e_val rfl rfl rfl rfl (by first|exact pureEval_ok rfl|fail) ?_|refine e_skip rfl rfl ?_|refine e_nil rfl ?_|fail)
     exact x_back (j + 1 + 1) ⟨hlt, hF2⟩ (by omega) (by repeat (first|exact .nil|refine .cons rfl (by first|rfl|(congr 1; done)|exact congrArg _ (by omega)|(simp; done)) ?_)) (by repeat (first|exact .nil|refine .keep (by first|rfl|assumption) ?_|refine .drop ?_|exact MSub.refl _))
 ·have hil : i = rows.length := by omega
  subst hil
  have hok : okS (N : Int).toNat (t : Int).toNat rows := fun j r hr => by
   rw [Int.toNat_natCast, Int.toNat_natCast]; exact hF j r (List.getElem?_eq_some_iff.1 hr).1 hr
  have hcode := rdC_0 h0 h2 hok
  repeat (first|refine l_val rfl rfl (by first|exact pureEval_ok rfl|fail) ?_|refine l_nil ?_|refine c_region ?_|refine c_seq ?_|refine x_then ?_|refine c_dec_f rfl (by first|omega|fail) ?_|refine c_ret ?_|refine c_exit ?_|refine x_then_exit ?_|refine x_block_same ?_|fail)
  exact x_ret rfl rfl (by repeat (first|exact .nil|(apply Res.tmp; rfl)|(apply Res.cell; rfl; exact (by repeat constructor); rfl; rfl))) rfl (fun W hW => ⟨by rw [hcode], hW.below⟩)
end R24
end Go.Proofs

set_option maxRecDepth 100000
set_option maxHeartbeats 400000000
namespace Go.Proofs
open Go.RowKit Go.Kin Go.Kin.St Go.Kin.Ct Go.Kin.Sg
namespace R24
def wtV (C : List Lk) (k : Int) (f : Nat -> Int) (q : Nat) : List Value := match wtF C k f q with
 | none => [.int .i64 0, .agg ⟨[.int .i64 0, .int .i64 0, .int .i64 0, .int .i64 0]⟩, .bool false]
 | some (m, x) => [.int .i64 m, .agg ⟨R22.lkE x⟩, .bool true]
theorem wtV_some {C : List Lk} {k : Int} {f : Nat -> Int} {q : Nat} {x : Lk} (h : lnk C q = some x) (h1 : f q = 0) (h2 : f x.fr.toNat ≠ 0) : wtV C k f q = [.int .i64 (k + 1 - f x.fr.toNat), .agg ⟨R22.lkE x⟩, .bool true] := by
 unfold wtV wtF; rw [h]; simp only; rw [if_pos ⟨h1, h2⟩]
theorem wtV_none {C : List Lk} {k : Int} {f : Nat -> Int} {q : Nat} (h : ∀ x, lnk C q = some x -> ¬ (f q = 0 /\ f x.fr.toNat ≠ 0)) : wtV C k f q = [.int .i64 0, .agg ⟨[.int .i64 0, .int .i64 0, .int .i64 0, .int .i64 0]⟩, .bool false] := by
 unfold wtV wtF
 cases hx : lnk C q with
 | none => rfl
 | some x => simp only; rw [if_neg (h x hx)]
theorem wait64_calls (n : Nat) (A : Option Addr) (cap : Nat) (L : List Lk) (B : Option Addr) (cab : Nat) (C : List Lk) (k : Nat) (K : Option Addr) (ck : Nat) (l : List Int) (q : Nat) (w : World) (hA : (⟨n, A, cap, L, B, cab, C⟩ : R23.Un).In w) (hK : At w K 1 (l.map inE))
  (hln : l.length = n) (hq : q < n) (hn : n <= 1000) (hk : k <= 1000) (hc : C.length <= 1000) (hC : ∀ x ∈ C, 0 <= x.fr /\ x.fr < n) (hf : ∀ q, 0 <= kn l q /\ kn l q <= 1000) :
  Calls Try.prog 64 ⟨[.agg ⟨[.int .i64 n, .slice A L.length cap, .slice B C.length cab]⟩, .int .i64 k, .slice K l.length ck, .int .i64 q]⟩ w fun e w' => e = .returned (.tuple ⟨wtV C k (kn l) q⟩) /\ Below w.heap.size w w' := by
 have hin : ∀ (mem : List (Nat × Obj)) (W : World), SatW w (base w) noJ mem W -> Calls Try.prog 65 ⟨[.agg ⟨[.int .i64 n, .slice A L.length cap, .slice B C.length cab]⟩, .int .i64 q]⟩ W fun e w' => e = .returned (.int .i64 (R23.intoI C q)) /\ Below W.heap.size W w' := fun mem W hW =>
  into65_calls ⟨n, A, cap, L, B, cab, C⟩ q W (hA.sat hW) (by show C.length <= _; omega)
 refine fun_enter Try.func64 rfl Try.ntmps64 rfl rfl (satW_nil w) ?_
 repeat (first|refine l_val rfl rfl (by first|exact pureEval_ok rfl|exact v_load rfl (by repeat constructor) rfl (by rfl)|fail) ?_|refine l_nil ?_|refine c_region ?_|refine c_seq ?_|refine x_then ?_|refine r_box rfl rfl rfl rfl (fun _ => ?_)|refine r_alloc rfl rfl rfl (by first|exact aggL|fail) (fun _ => ?_)|fail)
 refine r_call rfl rfl rfl (fun W hW => hin _ W hW) ?_
 obtain ⟨bk, ok, hKe, hq1⟩ := hK q (inE (kn l q)) (by rw [List.getElem?_map, kn_at (by omega)]; rfl)
 have eq1 := ext_of hq1
 rw [Nat.mul_one] at eq1
 subst hKe
 cases hi : into C (q : Int) with
 | none =>
  rw [R23.intoI_none hi]
  have hv := wtV_none (C := C) (k := k) (f := kn l) (q := q) fun x hx => by unfold lnk at hx; rw [hi] at hx; cases hx
  repeat (first|refine l_val rfl rfl (by first|exact pureEval_ok rfl|exact v_build rfl rfl (by rfl)|fail) ?_|refine l_nil ?_|refine c_region ?_|refine c_seq ?_|refine x_then ?_|refine l_skip rfl rfl ?_|refine r_store rfl rfl rfl rfl rfl rfl rfl (by repeat constructor) (by rfl) ?_|refine c_true rfl ?_|refine c_ret ?_|refine x_then_ret ?_|fail)
  exact x_ret rfl rfl (by repeat (first|exact .nil|(apply Res.tmp; rfl)|(apply Res.cell; rfl; exact (by repeat constructor); rfl; rfl))) rfl (fun W hW => ⟨by rw [hv], hW.below⟩)
 | some i =>
  rw [R23.intoI_some hi]
  obtain ⟨y, hy⟩ : ∃ y, C[i]? = some y := by
   have := iv_some hi
   exact ⟨_, List.getElem?_eq_getElem (into_lt hi)⟩
  have hly := lnk_of hi hy
  obtain ⟨f1, f2⟩ := hC y (List.mem_of_getElem? hy)
  by_cases c1 : kn l q = 0
  rotate_left
  ·have hv := wtV_none (C := C) (k := k) (f := kn l) (q := q) fun x hx h => c1 h.1
   repeat (first|refine l_val rfl rfl (by first|exact pureEval_ok rfl|exact v_load_ext0 rfl (by assumption) rfl (by rfl)|exact v_index rfl rfl rfl rfl (by omega) (by omega) (by with_reducible first|exact idx2 _ _|exact idx5 _|exact idx7 _ _|fail)|exact v_build rfl rfl (by rfl)|fail) ?_|refine l_nil ?_|refine c_region ?_|refine c_seq ?_|refine x_then ?_|refine l_skip rfl rfl ?_|refine r_store rfl rfl rfl rfl rfl rfl rfl (by repeat constructor) (by rfl) ?_|refine c_true rfl ?_|refine c_ret ?_|refine x_then_ret ?_|refine l_dec_t rfl rfl rfl rfl rfl (by first|omega|fail) ?_|fail)
   exact x_ret rfl rfl (by repeat (first|exact .nil|(apply Res.tmp; rfl)|(apply Res.cell; rfl; exact (by repeat constructor); rfl; rfl))) rfl (fun W hW => ⟨by rw [hv], hW.below⟩)
  obtain ⟨F, hF⟩ : ∃ F : Nat, y.fr = F := ⟨y.fr.toNat, by omega⟩
  obtain ⟨bk', ok', hKe', hq2⟩ := hK F (inE (kn l F)) (by rw [List.getElem?_map, kn_at (by omega)]; rfl)
  cases hKe'
  have eq2 := ext_of hq2
  rw [Nat.mul_one] at eq2
  obtain ⟨bC, oC, hBe, hc2⟩ := hA.c i (R22.lkE y) (by simp [hy])
  simp only at hBe
  have eqC : Ext w (base w) bC (oC + i * 4) (R22.lkE y) := ext_of hc2
  have hil := (List.getElem?_eq_some_iff.1 hy).1
  have hFt : y.fr.toNat = F := by omega
  have hlE : R22.lkE y = [.int .i64 F, .int .i64 y.to, .int .i64 y.lo, .int .i64 y.hi] := by unfold R22.lkE; rw [hF]
  have hfF := hf F
  subst hBe
  rw [c1] at eq1
  by_cases c2 : kn l F = 0
  ·have hv := wtV_none (C := C) (k := k) (f := kn l) (q := q) fun x hx h => by
    rw [hly] at hx; cases hx
    rw [hFt] at h; exact h.2 c2
   rw [hlE] at eqC
   repeat (first|refine l_val rfl rfl (by first|exact pureEval_ok rfl|exact v_load rfl (by repeat constructor) rfl (by rfl)|exact v_load_ext0 rfl (by assumption) rfl (by rfl)|exact v_index rfl rfl rfl rfl (by omega) (by omega) (by with_reducible first|exact idx2 _ _|exact idx4 _ _ _|fail)|exact v_build rfl rfl (by rfl)|fail) ?_|refine l_nil ?_|refine c_region ?_|refine c_seq ?_|refine x_then ?_|refine r_store rfl rfl rfl rfl rfl rfl rfl (by repeat constructor) (by rfl) ?_|refine c_dec_t rfl (by first|omega|fail) ?_|refine c_ret ?_|refine x_then_ret ?_|fail)
   exact x_ret rfl rfl (by repeat (first|exact .nil|(apply Res.tmp; rfl)|(apply Res.cell; rfl; exact (by repeat constructor); rfl; rfl))) rfl (fun W hW => ⟨by rw [hv], hW.below⟩)
  ·have hv := wtV_some (k := k) (f := kn l) hly c1 (by rw [hFt]; exact c2)
   rw [hFt, hlE] at hv
   rw [hlE] at eqC
   repeat ((fail_if_success refine c_probe (id := 4) ?_); (fail_if_success refine c_probe1 (id := 4) ?_); first|refine l_val rfl rfl (by first|exact pureEval_ok rfl|exact v_load rfl (by repeat constructor) rfl (by rfl)|exact v_load_ext0 rfl (by assumption) rfl (by rfl)|exact v_index rfl rfl rfl rfl (by omega) (by omega) (by with_reducible first|exact idx2 _ _|exact idx4 _ _ _|fail)|fail) ?_|refine l_nil ?_|refine c_region ?_|refine c_seq ?_|refine x_then ?_|refine c_dec_f rfl (by first|omega|fail) ?_|refine c_skip ?_|fail)
   repeat refine c_seq ?_
   refine c_new 1 0 [(18, .sto 0 0 4)] [(18, [0])] [] rfl (by decide +kernel) rfl ?_
   repeat (first|refine x_then ?_|refine c_ret ?_|refine e_val rfl rfl rfl rfl (by first|exact v_add rfl rfl (by omega) (by omega)|exact v_sub rfl rfl (by omega) (by omega)|exact pureEval_ok rfl|exact v_load rfl (by repeat constructor) rfl (by rfl)|exact v_load_ext0 rfl (by assumption) rfl (by rfl)|exact v_index rfl rfl rfl rfl (by omega) (by omega) (by with_reducible first|exact idx2 _ _|exact idx4 _ _ _|fail)|fail) ?_|refine e_store rfl rfl rfl rfl rfl rfl rfl rfl (by first|rfl|fail) rfl rfl (by first|(simp; done)|fail) (by first|exact splice_lit (by rfl)|fail) ?_|refine e_nil rfl ?_|fail)
   exact x_ret rfl rfl (by repeat (first|exact .nil|(apply Res.tmp; rfl)|(apply Res.cell; rfl; exact (by repeat constructor); rfl; rfl))) rfl (fun W hW => ⟨by rw [hv], hW.below⟩)
end R24
end Go.Proofs

set_option maxRecDepth 100000
set_option maxHeartbeats 400000000
namespace Go.Proofs
open Go.RowKit Go.Kin Go.Kin.St Go.Kin.Ct Go.Kin.Sg
namespace R24
/-- a list handed back in a block of its own -/
def NwQ (l : List Int) (w : World) (e : Ending) (w' : World) : Prop := ∃ b cap rest, e = .returned (.slice (some ⟨b, 0, none⟩) l.length cap) /\ Grow 1 l.length (flI l) cap rest /\ Below w.heap.size w w' /\ w.heap.size <= b /\ w'.heap[b]? = some (.cells ⟨flI l ++ rest⟩ 3 (0, 0))
theorem flI_eq : ∀ {l : List Int}, flI l = l.map fun x => Value.int .i64 x
 | [] => rfl
 | x :: l => by
  show Value.int .i64 x :: flI l = _
  rw [flI_eq]; rfl
theorem flI_set {l : List Int} {r : List Value} {q : Nat} {v : Int} (h : q < l.length) : (flI l ++ r).set (0 + q) (.int .i64 v) = flI (l.set q v) ++ r := by
 rw [flI_eq, flI_eq, Nat.zero_add, List.set_append_left _ _ (by rw [List.length_map]; exact h), List.map_set]
theorem put_take {l : List Int} {s : List Nat} {v : Int} {i q : Nat} (h : s[i]? = some q) : put l (s.take (i + 1)) v = (put l (s.take i) v).set q v := by
 unfold put
 rw [List.take_add_one, h, List.foldl_append]; rfl
theorem put66_calls (K : Option Addr) (ck : Nat) (l : List Int) (M : Option Addr) (cm : Nat) (s : List Nat) (k : Nat) (w : World) (hK : At w K 1 (l.map inE)) (hM : At w M 1 (s.map nE)) (hl : l.length <= 1000) (hne : l ≠ []) (hs : ∀ q ∈ s, q < l.length) (hsl : s.length <= 1000) (hk : k <= 1000) :
  Calls Try.prog 66 ⟨[.slice K l.length ck, .slice M s.length cm, .int .i64 k]⟩ w (NwQ (put l s ((k : Int) + 1)) w) := by
 obtain ⟨bK, oK, hKe, _⟩ := at_cells hK hne
 subst hKe
 refine fun_enter Try.func66 rfl Try.ntmps66 rfl rfl (satW_nil w) ?_
 repeat (first|refine l_val rfl rfl (by first|exact pureEval_ok rfl|fail) ?_|refine l_nil ?_|refine c_region ?_|refine c_seq ?_|refine x_then ?_|refine r_buildSlice rfl rfl rfl rfl rfl rfl (by rfl) (fun _ => ?_)|fail)
 refine r_append (xs := []) (rest := []) (n := 0) (cap := 0) (ys := flI l) rfl rfl rfl rfl rfl rfl (news_at fun W hW => hK.sat hW) Rem.head ⟨rfl, rfl, Nat.le_refl _, Nat.zero_le _⟩ flI_len flI_one rfl (by omega) (by unfold maxLen; omega) (fun b' c' r' hg => ?_)
 rw [Nat.zero_add] at hg ⊢
 rw [List.nil_append] at hg ⊢
 repeat (first|refine l_val rfl rfl (by first|exact pureEval_ok rfl|fail) ?_|refine l_nil ?_|refine c_region ?_|refine c_seq ?_|refine x_then ?_|refine c_block ?_|fail)
 refine c_loop (ι := Nat) (fun i => i <= s.length) (fun i => [(1, .slice M s.length cm), (2, .int .i64 k), (7, .slice (some ⟨b', 0, none⟩) l.length c'), (8, .int .i64 i)])
  (fun i => [(b', .cells ⟨flI (put l (s.take i) ((k : Int) + 1)) ++ r'⟩ 3 (0, 0))]) (fun i => s.length - i) 0 (Nat.zero_le _) (by repeat (first|exact .nil|refine .cons rfl (by first|rfl|(congr 1; done)|exact congrArg _ (by omega)|(simp; done)) ?_)) (by repeat (first|exact .nil|refine .keep (by first|rfl|assumption) ?_|refine .drop ?_|exact MSub.refl _)) ?_
 intro i hi
 have hpl : (put l (s.take i) ((k : Int) + 1)).length = l.length := put_len
 by_cases hlt : i < s.length
 ·obtain ⟨q, hq⟩ : ∃ q, s[i]? = some q := ⟨_, List.getElem?_eq_getElem hlt⟩
  have hql := hs q (List.mem_of_getElem? hq)
  obtain ⟨bm, om, rfl, hc⟩ := hM i (nE q) (by simp [hq])
  have e1 := ext_of hc
  rw [Nat.mul_one] at e1
  have hst : (flI (put l (s.take i) ((k : Int) + 1)) ++ r').set q (.int .i64 ((k : Int) + 1)) = flI (put l (s.take (i + 1)) ((k : Int) + 1)) ++ r' := by
   have := flI_set (l := put l (s.take i) ((k : Int) + 1)) (r := r') (q := q) (v := (k : Int) + 1) (by omega)
   rw [Nat.zero_add] at this
   rw [this, put_take hq]
  have hln : (flI (put l (s.take i) ((k : Int) + 1)) ++ r').length = l.length + r'.length := by rw [List.length_append, flI_len, hpl, Nat.mul_one]
  repeat (first|refine l_val rfl rfl (by first|exact v_add rfl rfl (by omega) (by omega)|exact pureEval_ok rfl|exact v_load_ext0 rfl (by assumption) rfl (by rfl)|exact v_index rfl rfl rfl rfl (by omega) (by omega) (by with_reducible first|exact idx1 _|exact idx2 _ _|fail)|fail) ?_|refine l_nil ?_|refine c_region ?_|refine c_seq ?_|refine x_then ?_|refine c_dec_t rfl (by first|omega|fail) ?_|refine c_block ?_|refine c_skip ?_|refine x_block ?_|refine r_store_at rfl rfl rfl rfl rfl rfl (by repeat constructor) (by rw [hln]; omega) hst ?_|fail)
  exact x_back (i + 1) hlt (by omega) (by repeat (first|exact .nil|refine .cons rfl (by first|rfl|(congr 1; done)|exact congrArg _ (by omega)|(simp; done)) ?_)) (by repeat (first|exact .nil|refine .keep (by first|rfl|assumption) ?_|refine .drop ?_|exact MSub.refl _))
 ·have hil : i = s.length := by omega
  subst hil
  rw [List.take_length] at hpl ⊢
  repeat (first|refine l_val rfl rfl (by first|exact pureEval_ok rfl|fail) ?_|refine l_nil ?_|refine c_region ?_|refine c_seq ?_|refine x_then ?_|refine c_dec_f rfl (by first|omega|fail) ?_|refine c_ret ?_|refine c_exit ?_|refine x_then_exit ?_|refine x_block_same ?_|fail)
  refine x_ret rfl rfl (by repeat (first|exact .nil|(apply Res.tmp; rfl)|(apply Res.cell; rfl; exact (by repeat constructor); rfl; rfl))) rfl (fun W hW => ?_)
  have h := hW.own (b', _) (by repeat constructor)
  refine ⟨b', c', r', by rw [hpl], ?_, hW.below, Nat.le_of_not_lt h.1, h.2⟩
  obtain ⟨g1, g2, g3, g4⟩ := hg
  have e : (flI (put l s ((k : Int) + 1))).length = (flI l).length := by rw [flI_len, flI_len, hpl]
  rw [hpl]
  exact ⟨by rw [e]; exact g1, by first|exact g2|(rw [List.length_append, e, <- List.length_append]; exact g2), g3, g4⟩
end R24
end Go.Proofs

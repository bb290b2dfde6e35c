/- Games on networks: the specification checks a strategy. -/
import Derived.Test.YtcodoembnjemkaaGreatEng41
import Derived.Test.YtcodoembnjemkaaGreatSgD
import Derived.Test.YtcodoembnjemkaaGreatSgRe
set_option maxRecDepth 100000
set_option maxHeartbeats 400000000
set_option linter.unusedSectionVars false
set_option linter.unusedVariables false
set_option linter.unusedSimpArgs false
namespace Go.Proofs
open Go.RowKit Go.Kin Go.Kin.St Go.Kin.Ct Go.Kin.Sg
namespace R24
/-- what `increasing` asks -/
def incH (h : Int) (d : List Int) : Prop := ∀ (i : Nat) (x : Int), d[i]? = some x -> 0 <= x /\ x <= h /\ ∀ (j : Nat) (y : Int), i = j + 1 -> d[j]? = some y -> y < x
theorem inc91_calls (A : Option Addr) (ca : Nat) (l : List Int) (h : Int) (bb : Bool) (w : World) (hA : At w A 1 (l.map inE)) (hl : l.length <= 9223372036854775806) (hb : bb = true ↔ incH h l) :
  Calls Tryz.prog 86 ⟨[.slice A l.length ca, .int .i64 h]⟩ w fun e w' => e = .returned (.bool bb) /\ Below w.heap.size w w' := by
 have hno : ∀ {i : Nat} {x : Int}, l[i]? = some x -> ¬ (0 <= x /\ x <= h /\ ∀ (j : Nat) (y : Int), i = j + 1 -> l[j]? = some y -> y < x) -> bb = false := fun hx hn => by
  cases bb with
  | false => rfl
  | true => exact absurd (hb.1 rfl _ _ hx) hn
 refine fun_enter Tryz.func86 rfl Tryz.ntmps86 rfl rfl (satW_nil w) ?_
 repeat (first|refine l_val rfl rfl (by first|exact pureEval_ok rfl|fail) ?_|refine l_nil ?_|refine c_region ?_|refine c_seq ?_|refine x_then ?_|refine c_block ?_|fail)
 refine c_loop (ι := Nat) (fun k => k <= l.length /\ ∀ (i : Nat) (x : Int), i < k -> l[i]? = some x -> 0 <= x /\ x <= h /\ ∀ (j : Nat) (y : Int), i = j + 1 -> l[j]? = some y -> y < x) (fun k => [(0, .slice A l.length ca), (1, .int .i64 h), (5, .int .i64 k)]) (fun _ => []) (fun k => l.length - k) 0 ⟨Nat.zero_le _, fun i x hi => absurd hi (Nat.not_lt_zero _)⟩ (by repeat (first|exact .nil|refine .cons rfl (by first|rfl|(congr 1; done)|exact congrArg _ (by omega)|(simp; done)) ?_)) (by repeat (first|exact .nil|refine .keep (by first|rfl|assumption) ?_|refine .drop ?_|exact MSub.refl _)) ?_
 rintro k ⟨hk, hF⟩
 by_cases hlt : k < l.length
 ·obtain ⟨x, hx⟩ : ∃ x, l[k]? = some x := ⟨_, List.getElem?_eq_getElem hlt⟩
  obtain ⟨b1, o1, rfl, h1⟩ := hA k (inE x) (by simp [hx])
  have e1 := ext_of h1
  rw [Nat.mul_one] at e1
  have hno' := fun (_ : Unit) => @hno
  have hF' := fun (_ : Unit) => hF
  have hb' := fun (_ : Unit) => hb
  clear hno hF hb
  by_cases c1 : x < 0
  ·have hc := hno' () hx (fun g => by omega)
   subst hc
   repeat (first|refine l_val rfl rfl (by first|exact pureEval_ok rfl|fail) ?_|refine l_nil ?_|refine c_region ?_|refine c_seq ?_|refine x_then ?_|refine c_true rfl ?_|refine c_dec_t rfl (by first|omega|fail) ?_|refine c_block ?_|refine c_skip ?_|refine c_ret ?_|refine x_then_ret ?_|refine x_block_ret ?_|refine c_reads rfl (by decide +kernel) ?_|refine q_val rfl rfl (by first|exact pureEval_ok rfl|exact v_load_ext0 rfl (by assumption) rfl (by rfl)|exact v_index rfl rfl rfl rfl (by omega) (by omega) (by with_reducible first|exact idx2 _ _|fail)|fail) ?_|refine q_nil ?_|refine q_skip rfl rfl ?_|refine q_dec_t rfl rfl rfl rfl (by first|omega|fail) ?_|fail)
   exact x_ret rfl rfl (by repeat (first|exact .nil|(apply Res.tmp; rfl)|(apply Res.cell; rfl; exact (by repeat constructor); rfl; rfl))) rfl (fun W hW => ⟨rfl, hW.below⟩)
  by_cases c2 : h < x
  ·have hc := hno' () hx (fun g => by omega)
   subst hc
   repeat (first|refine l_val rfl rfl (by first|exact pureEval_ok rfl|fail) ?_|refine l_nil ?_|refine c_region ?_|refine c_seq ?_|refine x_then ?_|refine c_true rfl ?_|refine c_dec_t rfl (by first|omega|fail) ?_|refine c_block ?_|refine c_skip ?_|refine c_ret ?_|refine x_then_ret ?_|refine x_block_ret ?_|refine c_reads rfl (by decide +kernel) ?_|refine q_val rfl rfl (by first|exact pureEval_ok rfl|exact v_load_ext0 rfl (by assumption) rfl (by rfl)|exact v_index rfl rfl rfl rfl (by omega) (by omega) (by with_reducible first|exact idx2 _ _|fail)|fail) ?_|refine q_nil ?_|refine q_skip rfl rfl ?_|refine q_dec_t rfl rfl rfl rfl (by first|omega|fail) ?_|refine q_dec_f rfl rfl rfl rfl (by first|omega|fail) ?_|fail)
   exact x_ret rfl rfl (by repeat (first|exact .nil|(apply Res.tmp; rfl)|(apply Res.cell; rfl; exact (by repeat constructor); rfl; rfl))) rfl (fun W hW => ⟨rfl, hW.below⟩)
  cases k with
  | zero =>
   repeat (first|refine l_val rfl rfl (by first|exact v_add rfl rfl (by omega) (by omega)|exact pureEval_ok rfl|fail) ?_|refine l_nil ?_|refine c_region ?_|refine c_seq ?_|refine x_then ?_|refine c_false rfl ?_|refine c_dec_t rfl (by first|omega|fail) ?_|refine c_block ?_|refine c_skip ?_|refine x_block ?_|refine c_reads rfl (by decide +kernel) ?_|refine q_val rfl rfl (by first|exact pureEval_ok rfl|exact v_load_ext0 rfl (by assumption) rfl (by rfl)|exact v_index rfl rfl rfl rfl (by omega) (by omega) (by with_reducible first|exact idx2 _ _|fail)|fail) ?_|refine q_nil ?_|refine q_skip rfl rfl ?_|refine q_dec_f rfl rfl rfl rfl (by first|omega|fail) ?_|fail)
   refine x_back 1 ⟨hlt, fun i y hi hy => ?_⟩ (by omega) (by repeat (first|exact .nil|refine .cons rfl (by first|rfl|(congr 1; done)|exact congrArg _ (by omega)|(simp; done)) ?_)) (by repeat (first|exact .nil|refine .keep (by first|rfl|assumption) ?_|refine .drop ?_|exact MSub.refl _))
   have e : i = 0 := by omega
   subst e
   rw [hx] at hy; cases hy
   exact ⟨by omega, by omega, fun j y hj => by omega⟩
  | succ k =>
   obtain ⟨y, hy⟩ : ∃ y, l[k]? = some y := ⟨_, List.getElem?_eq_getElem (by omega)⟩
   obtain ⟨b2, o2, e2', h2⟩ := hA k (inE y) (by simp [hy])
   cases e2'
   have e2 : Ext w (base w) b1 (o1 + (((k + 1 : Nat) : Int) - 1).toNat) (inE y) := by
    have := ext_of h2
    rw [Nat.mul_one] at this
    rw [show (((k + 1 : Nat) : Int) - 1).toNat = k by omega]; exact this
   have hk1 : (0 : Int) < ((k + 1 : Nat) : Int) := by omega
   by_cases c3 : x <= y
   ·have hc := hno' () hx (fun g => by have := g.2.2 k y rfl hy; omega)
    subst hc
    repeat (first|refine l_val rfl rfl (by first|exact pureEval_ok rfl|fail) ?_|refine l_nil ?_|refine c_region ?_|refine c_seq ?_|refine x_then ?_|refine c_dec_t rfl (by first|omega|fail) ?_|refine c_block ?_|refine c_skip ?_|refine c_ret ?_|refine x_then_ret ?_|refine x_block_ret ?_|refine c_reads rfl (by decide +kernel) ?_|refine q_val rfl rfl (by first|exact v_sub rfl rfl (by omega) (by omega)|exact pureEval_ok rfl|exact v_load_ext0 rfl (by assumption) rfl (by rfl)|exact v_index rfl rfl rfl rfl (by omega) (by omega) (by with_reducible first|exact idx2 _ _|exact idx6 _ _|fail)|fail) ?_|refine q_nil ?_|refine q_dec_t rfl rfl rfl rfl (by first|omega|fail) ?_|refine q_dec_f rfl rfl rfl rfl (by first|omega|fail) ?_|fail)
    exact x_ret rfl rfl (by repeat (first|exact .nil|(apply Res.tmp; rfl)|(apply Res.cell; rfl; exact (by repeat constructor); rfl; rfl))) rfl (fun W hW => ⟨rfl, hW.below⟩)
   ·repeat (first|refine l_val rfl rfl (by first|exact v_add rfl rfl (by omega) (by omega)|exact pureEval_ok rfl|fail) ?_|refine l_nil ?_|refine c_region ?_|refine c_seq ?_|refine x_then ?_|refine c_dec_t rfl (by first|omega|fail) ?_|refine c_dec_f rfl (by first|omega|fail) ?_|refine c_block ?_|refine c_skip ?_|refine x_block ?_|refine c_reads rfl (by decide +kernel) ?_|refine q_val rfl rfl (by first|exact v_sub rfl rfl (by omega) (by omega)|exact pureEval_ok rfl|exact v_load_ext0 rfl (by assumption) rfl (by rfl)|exact v_index rfl rfl rfl rfl (by omega) (by omega) (by with_reducible first|exact idx2 _ _|exact idx6 _ _|fail)|fail) ?_|refine q_nil ?_|refine q_dec_t rfl rfl rfl rfl (by first|omega|fail) ?_|refine q_dec_f rfl rfl rfl rfl (by first|omega|fail) ?_|fail)
    refine x_back (k + 1 + 1) ⟨hlt, fun i z hi hz => ?_⟩ (by omega) (by repeat (first|exact .nil|refine .cons rfl (by first|rfl|(congr 1; done)|exact congrArg _ (by omega)|(simp; done)) ?_)) (by repeat (first|exact .nil|refine .keep (by first|rfl|assumption) ?_|refine .drop ?_|exact MSub.refl _))
    by_cases hik : i < k + 1
    ·exact hF' () i z hik hz
    ·have e : i = k + 1 := by omega
     subst e
     rw [hx] at hz; cases hz
     refine ⟨by omega, by omega, fun j u hj hu => ?_⟩
     have e : j = k := by omega
     subst e
     rw [hy] at hu; cases hu
     omega
 ·have hkl : k = l.length := by omega
  subst hkl
  have hc : bb = true := hb.2 fun i x hx => hF i x (List.getElem?_eq_some_iff.1 hx).1 hx
  subst hc
  clear hno hF hb
  repeat (first|refine l_val rfl rfl (by first|exact pureEval_ok rfl|fail) ?_|refine l_nil ?_|refine c_region ?_|refine c_seq ?_|refine x_then ?_|refine c_dec_f rfl (by first|omega|fail) ?_|refine c_ret ?_|refine c_exit ?_|refine x_then_exit ?_|refine x_block_same ?_|fail)
  exact x_ret rfl rfl (by repeat (first|exact .nil|(apply Res.tmp; rfl)|(apply Res.cell; rfl; exact (by repeat constructor); rfl; rfl))) rfl (fun W hW => ⟨rfl, hW.below⟩)
end R24
end Go.Proofs

set_option maxRecDepth 100000
set_option maxHeartbeats 400000000
namespace Go.Proofs
open Go.RowKit Go.Kin Go.Kin.St Go.Kin.Ct Go.Kin.Sg
namespace R24
/-- what `decision` asks -/
structure okQ (n T : Nat) (r : DW) : Prop where
 k0 : 0 <= r.k
 kT : r.k <= T
 l : r.l.length = n
 d : r.d ≠ []
 o : incH ((n : Int) - 1) r.d
 e : okL r.k r.l
theorem incH_iff {n : Nat} {d : List Int} : incH ((n : Int) - 1) d ↔ okD n d := by
 rw [<- incB_iff]
 constructor
 ·intro h i x hx
  obtain ⟨h1, h2, h3⟩ := h i x hx
  exact ⟨h1, by omega, h3⟩
 ·intro h i x hx
  obtain ⟨h1, h2, h3⟩ := h i x hx
  exact ⟨h1, by omega, h3⟩
theorem okR_iff {n T : Nat} {rows : List DW} {i : Nat} {r : DW} : okR n T rows i r ↔ okQ n T r /\ okP rows i r :=
 ⟨fun h => ⟨⟨h.k0, h.kT, h.l, h.d, incH_iff.2 h.o, h.e⟩, h.p⟩, fun h => ⟨h.1.k0, h.1.kT, h.1.l, h.1.d, h.2, incH_iff.1 h.1.o, h.1.e⟩⟩
theorem dec62_calls (n : Nat) (A : Option Addr) (cap : Nat) (L : List Lk) (B : Option Addr) (cab : Nat) (C : List Lk) (t : Nat) (r : DW) (bb : Bool) (w : World) (hn : n <= 1000) (hT : t <= 1000000)
  (hk : At w r.K 1 (r.l.map inE)) (hd : At w r.D 1 (r.d.map inE)) (hlk : r.l.length <= 9223372036854775806) (hld : r.d.length <= 9223372036854775806) (hb : bb = true ↔ okQ n t r) :
  Calls Tryz.prog 57 ⟨[.agg ⟨[.int .i64 n, .slice A L.length cap, .slice B C.length cab]⟩, .int .i64 t, .agg ⟨dwE r⟩]⟩ w fun e w' => e = .returned (.bool bb) /\ Below w.heap.size w w' := by
 have hno : ∀ {X : Prop}, X -> (okQ n t r -> ¬ X) -> bb = false := fun {X} hx hi => by
  cases bb with
  | false => rfl
  | true => exact absurd hx (hi (hb.1 rfl))
 refine fun_enter Tryz.func57 rfl Tryz.ntmps57 rfl rfl (satW_nil w) ?_
 repeat ((fail_if_success refine c_probe (id := 1) ?_); (fail_if_success refine c_probe1 (id := 1) ?_); first|refine l_val rfl rfl (by first|exact pureEval_ok rfl|fail) ?_|refine l_nil ?_|refine c_region ?_|refine c_seq ?_|refine x_then ?_|refine r_box rfl rfl rfl rfl (fun _ => ?_)|fail)
 by_cases a1 : r.k < 0
 ·have hc := hno a1 fun h => by have := h.k0; omega
  subst hc
  repeat (first|refine l_val rfl rfl (by first|exact pureEval_ok rfl|exact v_load rfl (by repeat constructor) rfl (by rfl)|fail) ?_|refine l_nil ?_|refine c_region ?_|refine c_seq ?_|refine x_then ?_|refine l_skip rfl rfl ?_|refine c_true rfl ?_|refine c_ret ?_|refine x_then_ret ?_|refine l_dec_t rfl rfl rfl rfl rfl (by first|omega|fail) ?_|fail)
  exact x_ret rfl rfl (by repeat (first|exact .nil|(apply Res.tmp; rfl)|(apply Res.cell; rfl; exact (by repeat constructor); rfl; rfl))) rfl (fun W hW => ⟨rfl, hW.below⟩)
 by_cases a2 : (t : Int) < r.k
 ·have hc := hno a2 fun h => by have := h.kT; omega
  subst hc
  repeat (first|refine l_val rfl rfl (by first|exact pureEval_ok rfl|exact v_load rfl (by repeat constructor) rfl (by rfl)|fail) ?_|refine l_nil ?_|refine c_region ?_|refine c_seq ?_|refine x_then ?_|refine l_skip rfl rfl ?_|refine c_true rfl ?_|refine c_ret ?_|refine x_then_ret ?_|refine l_dec_t rfl rfl rfl rfl rfl (by first|omega|fail) ?_|refine l_dec_f rfl rfl rfl rfl rfl (by first|omega|fail) ?_|fail)
  exact x_ret rfl rfl (by repeat (first|exact .nil|(apply Res.tmp; rfl)|(apply Res.cell; rfl; exact (by repeat constructor); rfl; rfl))) rfl (fun W hW => ⟨rfl, hW.below⟩)
 by_cases a3 : r.l.length = n
 rotate_left
 ·have hc := hno a3 fun h => by have := h.l; omega
  subst hc
  have a3' : (r.l.length : Int) ≠ n := by omega
  repeat (first|refine l_val rfl rfl (by first|exact pureEval_ok rfl|exact v_load rfl (by repeat constructor) rfl (by rfl)|fail) ?_|refine l_nil ?_|refine c_region ?_|refine c_seq ?_|refine x_then ?_|refine l_skip rfl rfl ?_|refine c_true rfl ?_|refine c_ret ?_|refine x_then_ret ?_|refine l_dec_t rfl rfl rfl rfl rfl (by first|omega|fail) ?_|refine l_dec_f rfl rfl rfl rfl rfl (by first|omega|fail) ?_|fail)
  exact x_ret rfl rfl (by repeat (first|exact .nil|(apply Res.tmp; rfl)|(apply Res.cell; rfl; exact (by repeat constructor); rfl; rfl))) rfl (fun W hW => ⟨rfl, hW.below⟩)
 by_cases a4 : r.d.length = 0
 ·have hc := hno a4 fun h => by have := List.length_pos_iff.2 h.d; omega
  subst hc
  repeat (first|refine l_val rfl rfl (by first|exact pureEval_ok rfl|exact v_load rfl (by repeat constructor) rfl (by rfl)|fail) ?_|refine l_nil ?_|refine c_region ?_|refine c_seq ?_|refine x_then ?_|refine l_skip rfl rfl ?_|refine c_true rfl ?_|refine c_ret ?_|refine x_then_ret ?_|refine l_dec_t rfl rfl rfl rfl rfl (by first|omega|fail) ?_|refine l_dec_f rfl rfl rfl rfl rfl (by first|omega|fail) ?_|fail)
  exact x_ret rfl rfl (by repeat (first|exact .nil|(apply Res.tmp; rfl)|(apply Res.cell; rfl; exact (by repeat constructor); rfl; rfl))) rfl (fun W hW => ⟨rfl, hW.below⟩)
 obtain ⟨bi, hbi⟩ : ∃ bi : Bool, bi = true ↔ incH ((n : Int) - 1) r.d := ⟨@decide _ (Classical.propDecidable _), @decide_eq_true_iff _ (Classical.propDecidable _)⟩
 have hcl : ∀ (mem : List (Nat × Obj)) (W : World), SatW w (base w) noJ mem W -> Calls Tryz.prog 86 ⟨[.slice r.D r.d.length r.cd, .int .i64 ((n : Int) - 1)]⟩ W fun e w' => e = .returned (.bool bi) /\ Below W.heap.size W w' := fun mem W hW =>
  inc91_calls r.D r.cd r.d _ bi W (hd.sat hW) hld hbi
 repeat (first|refine l_val rfl rfl (by first|exact v_sub rfl rfl (by omega) (by omega)|exact pureEval_ok rfl|exact v_load rfl (by repeat constructor) rfl (by rfl)|fail) ?_|refine c_region ?_|refine c_seq ?_|refine l_dec_f rfl rfl rfl rfl rfl (by first|omega|fail) ?_|fail)
 refine r_call rfl rfl rfl (fun W hW => hcl _ W hW) ?_
 cases bi with
 | false =>
  have hc : bb = false := by
   cases bb with
   | false => rfl
   | true => exact absurd (hbi.2 (hb.1 rfl).o) (by decide)
  subst hc
  repeat (first|refine l_val rfl rfl (by first|exact pureEval_ok rfl|fail) ?_|refine l_nil ?_|refine c_region ?_|refine c_seq ?_|refine x_then ?_|refine c_true rfl ?_|refine c_ret ?_|refine x_then_ret ?_|fail)
  exact x_ret rfl rfl (by repeat (first|exact .nil|(apply Res.tmp; rfl)|(apply Res.cell; rfl; exact (by repeat constructor); rfl; rfl))) rfl (fun W hW => ⟨rfl, hW.below⟩)
 | true =>
  have hinc := hbi.1 rfl
  repeat (first|refine l_val rfl rfl (by first|exact pureEval_ok rfl|fail) ?_|refine l_nil ?_|refine c_region ?_|refine c_seq ?_|refine x_then ?_|refine c_false rfl ?_|refine c_block ?_|refine c_skip ?_|fail)
  rename_i b3 b5
  refine c_loop (ι := Nat) (fun k => k <= n /\ ∀ x ∈ r.l.take k, 0 <= x /\ x <= r.k + 1) (fun k => [(3, .pointer (some ⟨b3, 0, none⟩)), (5, .pointer (some ⟨b5, 0, none⟩)), (7, .int .i64 k)])
   (fun _ => [(b5, .cells ⟨dwE r⟩ 39 (0, 0)), (b3, .cells ⟨[.int .i64 n, .slice A L.length cap, .slice B C.length cab]⟩ 24 (0, 0))]) (fun k => n - k) 0 ⟨Nat.zero_le _, fun x hx => by simp at hx⟩ (by repeat (first|exact .nil|refine .cons rfl (by first|rfl|(congr 1; done)|exact congrArg _ (by omega)|(simp; done)) ?_)) (by repeat (first|exact .nil|refine .keep (by first|rfl|assumption) ?_|refine .drop ?_|exact MSub.refl _)) ?_
  rintro k ⟨hk2, hF⟩
  by_cases hlt : k < n
  ·obtain ⟨x, hx⟩ : ∃ x, r.l[k]? = some x := ⟨_, List.getElem?_eq_getElem (by omega)⟩
   obtain ⟨b1, o1, hKe, h1⟩ := hk k (inE x) (by simp [hx])
   have e1 := ext_of h1
   rw [Nat.mul_one] at e1
   have hkv : Value.slice r.K r.l.length r.ck = .slice (some ⟨b1, o1, none⟩) r.l.length r.ck := by rw [hKe]
   have hdE : dwE r = [.int .i64 r.k, .slice (some ⟨b1, o1, none⟩) r.l.length r.ck, .slice r.D r.d.length r.cd] := by unfold dwE; rw [hkv]
   rw [hdE]
   by_cases c1 : x < 0
   ·have hc := hno c1 fun h => by have := (h.e x (List.mem_of_getElem? hx)).1; omega
    subst hc
    repeat (first|refine l_val rfl rfl (by first|exact pureEval_ok rfl|exact v_load rfl (by repeat constructor) rfl (by rfl)|fail) ?_|refine l_nil ?_|refine c_region ?_|refine c_seq ?_|refine x_then ?_|refine c_true rfl ?_|refine c_dec_t rfl (by first|omega|fail) ?_|refine c_block ?_|refine c_skip ?_|refine c_ret ?_|refine x_then_ret ?_|refine x_block_ret ?_|refine c_reads rfl (by decide +kernel) ?_|refine q_val rfl rfl (by first|exact pureEval_ok rfl|exact v_load rfl (by repeat constructor) rfl (by rfl)|exact v_load_ext0 rfl (by assumption) rfl (by rfl)|exact v_index rfl rfl rfl rfl (by omega) (by omega) (by with_reducible first|exact idx2 _ _|fail)|fail) ?_|refine q_nil ?_|refine q_skip rfl rfl ?_|refine q_dec_t rfl rfl rfl rfl (by first|omega|fail) ?_|fail)
    exact x_ret rfl rfl (by repeat (first|exact .nil|(apply Res.tmp; rfl)|(apply Res.cell; rfl; exact (by repeat constructor); rfl; rfl))) rfl (fun W hW => ⟨rfl, hW.below⟩)
   by_cases c2 : r.k + 1 < x
   ·have hc := hno c2 fun h => by have := (h.e x (List.mem_of_getElem? hx)).2; omega
    subst hc
    repeat (first|refine l_val rfl rfl (by first|exact pureEval_ok rfl|exact v_load rfl (by repeat constructor) rfl (by rfl)|fail) ?_|refine l_nil ?_|refine c_region ?_|refine c_seq ?_|refine x_then ?_|refine c_dec_t rfl (by first|omega|fail) ?_|refine c_block ?_|refine c_skip ?_|refine c_ret ?_|refine x_then_ret ?_|refine x_block_ret ?_|refine c_reads rfl (by decide +kernel) ?_|refine q_val rfl rfl (by first|exact v_add rfl rfl (by omega) (by omega)|exact pureEval_ok rfl|exact v_load rfl (by repeat constructor) rfl (by rfl)|exact v_load_ext0 rfl (by assumption) rfl (by rfl)|exact v_index rfl rfl rfl rfl (by omega) (by omega) (by with_reducible first|exact idx2 _ _|fail)|fail) ?_|refine q_nil ?_|refine q_dec_f rfl rfl rfl rfl (by first|omega|fail) ?_|fail)
    exact x_ret rfl rfl (by repeat (first|exact .nil|(apply Res.tmp; rfl)|(apply Res.cell; rfl; exact (by repeat constructor); rfl; rfl))) rfl (fun W hW => ⟨rfl, hW.below⟩)
   repeat (first|refine l_val rfl rfl (by first|exact v_add rfl rfl (by omega) (by omega)|exact pureEval_ok rfl|exact v_load rfl (by repeat constructor) rfl (by rfl)|fail) ?_|refine l_nil ?_|refine c_region ?_|refine c_seq ?_|refine x_then ?_|refine c_dec_t rfl (by first|omega|fail) ?_|refine c_dec_f rfl (by first|omega|fail) ?_|refine c_block ?_|refine c_skip ?_|refine x_block ?_|refine c_reads rfl (by decide +kernel) ?_|refine q_val rfl rfl (by first|exact v_add rfl rfl (by omega) (by omega)|exact pureEval_ok rfl|exact v_load rfl (by repeat constructor) rfl (by rfl)|exact v_load_ext0 rfl (by assumption) rfl (by rfl)|exact v_index rfl rfl rfl rfl (by omega) (by omega) (by with_reducible first|exact idx2 _ _|fail)|fail) ?_|refine q_nil ?_|refine q_dec_f rfl rfl rfl rfl (by first|omega|fail) ?_|fail)
   rw [<- hdE]
   refine x_back (k + 1) ⟨hlt, fun y hy => ?_⟩ (by omega) (by repeat (first|exact .nil|refine .cons rfl (by first|rfl|(congr 1; done)|exact congrArg _ (by omega)|(simp; done)) ?_)) (by repeat (first|exact .nil|refine .keep (by first|rfl|assumption) ?_|refine .drop ?_|exact MSub.refl _))
   rw [List.take_add_one, hx] at hy
   rcases List.mem_append.1 hy with h | h
   ·exact hF y h
   ·simp only [Option.toList_some, List.mem_singleton] at h
    rw [h]; exact ⟨by omega, by omega⟩
  ·have hkl : k = r.l.length := by omega
   subst hkl
   rw [List.take_length] at hF
   have hc : bb = true := hb.2 ⟨by omega, by omega, a3, fun e => a4 (by rw [e]; rfl), hinc, hF⟩
   subst hc
   repeat (first|refine l_val rfl rfl (by first|exact pureEval_ok rfl|exact v_load rfl (by repeat constructor) rfl (by rfl)|fail) ?_|refine l_nil ?_|refine c_region ?_|refine c_seq ?_|refine x_then ?_|refine c_dec_f rfl (by first|omega|fail) ?_|refine c_ret ?_|refine c_exit ?_|refine x_then_exit ?_|refine x_block_same ?_|fail)
   exact x_ret rfl rfl (by repeat (first|exact .nil|(apply Res.tmp; rfl)|(apply Res.cell; rfl; exact (by repeat constructor); rfl; rfl))) rfl (fun W hW => ⟨rfl, hW.below⟩)
end R24
end Go.Proofs

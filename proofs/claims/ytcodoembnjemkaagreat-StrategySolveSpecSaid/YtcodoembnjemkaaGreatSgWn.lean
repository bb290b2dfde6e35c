/- Games on networks: the specification checks a decision. -/
import Derived.Test.YtcodoembnjemkaaGreatSgQb
import Derived.Test.YtcodoembnjemkaaGreatEng41
import Derived.Test.YtcodoembnjemkaaGreatSgTab
set_option maxRecDepth 100000
set_option maxHeartbeats 400000000
set_option linter.unusedSectionVars false
set_option linter.unusedVariables false
set_option linter.unusedSimpArgs false
namespace Go.Proofs
open Go.RowKit Go.Kin Go.Kin.St Go.Kin.Ct Go.Kin.Sg
namespace R24
/-- what `decision` asks -/
structure okQ (n T : Nat) (r : DW) : Prop where
 k0 : 0 <= r.k
 kT : r.k <= T
 l : r.l.length = n
 d : r.d ≠ []
 o : incH ((n : Int) - 1) r.d
 e : okL r.k r.l
theorem incH_iff {n : Nat} {d : List Int} : incH ((n : Int) - 1) d ↔ okD n d := by
 rw [<- incB_iff]
 constructor
 ·intro h i x hx
  obtain ⟨h1, h2, h3⟩ := h i x hx
  exact ⟨h1, by omega, h3⟩
 ·intro h i x hx
  obtain ⟨h1, h2, h3⟩ := h i x hx
  exact ⟨h1, by omega, h3⟩
theorem okR_iff {n T : Nat} {rows : List DW} {i : Nat} {r : DW} : okR n T rows i r ↔ okQ n T r /\ okP rows i r :=
 ⟨fun h => ⟨⟨h.k0, h.kT, h.l, h.d, incH_iff.2 h.o, h.e⟩, h.p⟩, fun h => ⟨h.1.k0, h.1.kT, h.1.l, h.1.d, h.2, incH_iff.1 h.1.o, h.1.e⟩⟩
theorem dec62_calls (n : Nat) (A : Option Addr) (cap : Nat) (L : List Lk) (B : Option Addr) (cab : Nat) (C : List Lk) (t : Nat) (r : DW) (bb : Bool) (w : World) (hn : n <= 1000) (hT : t <= 1000000)
  (hk : At w r.K 1 (r.l.map inE)) (hd : At w r.D 1 (r.d.map inE)) (hlk : r.l.length <= 9223372036854775806) (hld : r.d.length <= 9223372036854775806) (hb : bb = true ↔ okQ n t r) :
  Calls Tryz.prog 57 ⟨[.agg ⟨[.int .i64 n, .slice A L.length cap, .slice B C.length cab]⟩, .int .i64 t, .agg ⟨dwE r⟩]⟩ w fun e w' => e = .returned (.bool bb) /\ Below w.heap.size w w' := by
 have hno : ∀ {X : Prop}, X -> (okQ n t r -> ¬ X) -> bb = false := fun {X} hx hi => by
  cases bb with
  | false => rfl
  | true => exact absurd hx (hi (hb.1 rfl))
 refine fEn Tryz.func57 rfl Tryz.ntmps57 rfl rfl (sWn w) ?_
 repeat ((fail_if_success refine c_probe (id := 1) ?_); (fail_if_success refine c_probe1 (id := 1) ?_); first|refine lVa rfl rfl (by first|exact pEv rfl|fail) ?_|refine lNi ?_|refine cRg ?_|refine cSq ?_|refine xTh ?_|refine r_box rfl rfl rfl rfl (fun _ => ?_)|fail)
 by_cases a1 : r.k < 0
 ·have hc := hno a1 fun h => by have := h.k0; omega
  subst hc
  repeat (first|refine lVa rfl rfl (by first|exact pEv rfl|exact vLd rfl (by repeat constructor) rfl (by rfl)|fail) ?_|refine lNi ?_|refine cRg ?_|refine cSq ?_|refine xTh ?_|refine l_skip rfl rfl ?_|refine c_true rfl ?_|refine c_ret ?_|refine xTr ?_|refine l_dec_t rfl rfl rfl rfl rfl (by first|omega|fail) ?_|fail)
  exact x_ret rfl rfl (by repeat constructor) rfl (fun W hW => ⟨rfl, hW.below⟩)
 by_cases a2 : (t : Int) < r.k
 ·have hc := hno a2 fun h => by have := h.kT; omega
  subst hc
  repeat (first|refine lVa rfl rfl (by first|exact pEv rfl|exact vLd rfl (by repeat constructor) rfl (by rfl)|fail) ?_|refine lNi ?_|refine cRg ?_|refine cSq ?_|refine xTh ?_|refine l_skip rfl rfl ?_|refine c_true rfl ?_|refine c_ret ?_|refine xTr ?_|refine l_dec_t rfl rfl rfl rfl rfl (by first|omega|fail) ?_|refine l_dec_f rfl rfl rfl rfl rfl (by first|omega|fail) ?_|fail)
  exact x_ret rfl rfl (by repeat constructor) rfl (fun W hW => ⟨rfl, hW.below⟩)
 by_cases a3 : r.l.length = n
 rotate_left
 ·have hc := hno a3 fun h => by have := h.l; omega
  subst hc
  have a3' : (r.l.length : Int) ≠ n := by omega
  repeat (first|refine lVa rfl rfl (by first|exact pEv rfl|exact vLd rfl (by repeat constructor) rfl (by rfl)|fail) ?_|refine lNi ?_|refine cRg ?_|refine cSq ?_|refine xTh ?_|refine l_skip rfl rfl ?_|refine c_true rfl ?_|refine c_ret ?_|refine xTr ?_|refine l_dec_t rfl rfl rfl rfl rfl (by first|omega|fail) ?_|refine l_dec_f rfl rfl rfl rfl rfl (by first|omega|fail) ?_|fail)
  exact x_ret rfl rfl (by repeat constructor) rfl (fun W hW => ⟨rfl, hW.below⟩)
 by_cases a4 : r.d.length = 0
 ·have hc := hno a4 fun h => by have := List.length_pos_iff.2 h.d; omega
  subst hc
  repeat (first|refine lVa rfl rfl (by first|exact pEv rfl|exact vLd rfl (by repeat constructor) rfl (by rfl)|fail) ?_|refine lNi ?_|refine cRg ?_|refine cSq ?_|refine xTh ?_|refine l_skip rfl rfl ?_|refine c_true rfl ?_|refine c_ret ?_|refine xTr ?_|refine l_dec_t rfl rfl rfl rfl rfl (by first|omega|fail) ?_|refine l_dec_f rfl rfl rfl rfl rfl (by first|omega|fail) ?_|fail)
  exact x_ret rfl rfl (by repeat constructor) rfl (fun W hW => ⟨rfl, hW.below⟩)
 obtain ⟨bi, hbi⟩ : ∃ bi : Bool, bi = true ↔ incH ((n : Int) - 1) r.d := ⟨@decide _ (Classical.propDecidable _), @decide_eq_true_iff _ (Classical.propDecidable _)⟩
 have hcl : ∀ (mem : List (Nat × Obj)) (W : World), SatW w (base w) noJ mem W -> Calls Tryz.prog 86 ⟨[.slice r.D r.d.length r.cd, .int .i64 ((n : Int) - 1)]⟩ W fun e w' => e = .returned (.bool bi) /\ Below W.heap.size W w' := fun mem W hW =>
  inc91_calls r.D r.cd r.d _ bi W (hd.sat hW) hld hbi
 repeat (first|refine lVa rfl rfl (by first|exact v_sub rfl rfl (by omega) (by omega)|exact pEv rfl|exact vLd rfl (by repeat constructor) rfl (by rfl)|fail) ?_|refine cRg ?_|refine cSq ?_|refine l_dec_f rfl rfl rfl rfl rfl (by first|omega|fail) ?_|fail)
 refine r_call rfl rfl rfl (fun W hW => hcl _ W hW) ?_
 cases bi with
 | false =>
  have hc : bb = false := by
   cases bb with
   | false => rfl
   | true => exact absurd (hbi.2 (hb.1 rfl).o) (by decide)
  subst hc
  repeat (first|refine lVa rfl rfl (by first|exact pEv rfl|fail) ?_|refine lNi ?_|refine cRg ?_|refine cSq ?_|refine xTh ?_|refine c_true rfl ?_|refine c_ret ?_|refine xTr ?_|fail)
  exact x_ret rfl rfl (by repeat constructor) rfl (fun W hW => ⟨rfl, hW.below⟩)
 | true =>
  have hinc := hbi.1 rfl
  repeat (first|refine lVa rfl rfl (by first|exact pEv rfl|fail) ?_|refine lNi ?_|refine cRg ?_|refine cSq ?_|refine xTh ?_|refine c_false rfl ?_|refine cBl ?_|refine cSk ?_|fail)
  rename_i b3 b5
  refine c_loop (ι := Nat) (fun k => k <= n /\ ∀ x ∈ r.l.take k, 0 <= x /\ x <= r.k + 1) (fun k => [(3, .pointer (some ⟨b3, 0, none⟩)), (5, .pointer (some ⟨b5, 0, none⟩)), (7, .int .i64 k)])
   (fun _ => [(b5, .cells ⟨dwE r⟩ 39 (0, 0)), (b3, .cells ⟨[.int .i64 n, .slice A L.length cap, .slice B C.length cab]⟩ 24 (0, 0))]) (fun k => n - k) 0 ⟨Nat.zero_le _, fun x hx => by simp at hx⟩ (by repeat (first|exact .nil|refine .cons rfl (by first|rfl|(congr 1; done)|exact congrArg _ (by omega)|(simp; done)) ?_)) (by repeat (first|exact .nil|refine .keep (by first|rfl|assumption) ?_|refine .drop ?_|exact MSub.refl _)) ?_
  rintro k ⟨hk2, hF⟩
  by_cases hlt : k < n
  ·obtain ⟨x, hx⟩ : ∃ x, r.l[k]? = some x := ⟨_, List.getElem?_eq_getElem (by omega)⟩
   obtain ⟨b1, o1, hKe, h1⟩ := hk k (inE x) (by simp [hx])
   have e1 := ext_of h1
   rw [Nat.mul_one] at e1
   have hkv : Value.slice r.K r.l.length r.ck = .slice (some ⟨b1, o1, none⟩) r.l.length r.ck := by rw [hKe]
   have hdE : dwE r = [.int .i64 r.k, .slice (some ⟨b1, o1, none⟩) r.l.length r.ck, .slice r.D r.d.length r.cd] := by unfold dwE; rw [hkv]
   rw [hdE]
   by_cases c1 : x < 0
   ·have hc := hno c1 fun h => by have := (h.e x (List.mem_of_getElem? hx)).1; omega
    subst hc
    repeat (first|refine lVa rfl rfl (by first|exact pEv rfl|exact vLd rfl (by repeat constructor) rfl (by rfl)|fail) ?_|refine lNi ?_|refine cRg ?_|refine cSq ?_|refine xTh ?_|refine c_true rfl ?_|refine c_dec_t rfl (by first|omega|fail) ?_|refine cBl ?_|refine cSk ?_|refine c_ret ?_|refine xTr ?_|refine xBr ?_|refine c_reads rfl (by decide +kernel) ?_|refine q_val rfl rfl (by first|exact pEv rfl|exact vLd rfl (by repeat constructor) rfl (by rfl)|exact vL0 rfl (by assumption) rfl (by rfl)|exact v_index rfl rfl rfl rfl (by omega) (by omega) (by with_reducible first|exact idx2 _ _|fail)|fail) ?_|refine q_nil ?_|refine q_skip rfl rfl ?_|refine q_dec_t rfl rfl rfl rfl (by first|omega|fail) ?_|fail)
    exact x_ret rfl rfl (by repeat constructor) rfl (fun W hW => ⟨rfl, hW.below⟩)
   by_cases c2 : r.k + 1 < x
   ·have hc := hno c2 fun h => by have := (h.e x (List.mem_of_getElem? hx)).2; omega
    subst hc
    repeat (first|refine lVa rfl rfl (by first|exact pEv rfl|exact vLd rfl (by repeat constructor) rfl (by rfl)|fail) ?_|refine lNi ?_|refine cRg ?_|refine cSq ?_|refine xTh ?_|refine c_dec_t rfl (by first|omega|fail) ?_|refine cBl ?_|refine cSk ?_|refine c_ret ?_|refine xTr ?_|refine xBr ?_|refine c_reads rfl (by decide +kernel) ?_|refine q_val rfl rfl (by first|exact v_add rfl rfl (by omega) (by omega)|exact pEv rfl|exact vLd rfl (by repeat constructor) rfl (by rfl)|exact vL0 rfl (by assumption) rfl (by rfl)|exact v_index rfl rfl rfl rfl (by omega) (by omega) (by with_reducible first|exact idx2 _ _|fail)|fail) ?_|refine q_nil ?_|refine q_dec_f rfl rfl rfl rfl (by first|omega|fail) ?_|fail)
    exact x_ret rfl rfl (by repeat constructor) rfl (fun W hW => ⟨rfl, hW.below⟩)
   repeat (first|refine lVa rfl rfl (by first|exact v_add rfl rfl (by omega) (by omega)|exact pEv rfl|exact vLd rfl (by repeat constructor) rfl (by rfl)|fail) ?_|refine lNi ?_|refine cRg ?_|refine cSq ?_|refine xTh ?_|refine c_dec_t rfl (by first|omega|fail) ?_|refine c_dec_f rfl (by first|omega|fail) ?_|refine cBl ?_|refine cSk ?_|refine x_block ?_|refine c_reads rfl (by decide +kernel) ?_|refine q_val rfl rfl (by first|exact v_add rfl rfl (by omega) (by omega)|exact pEv rfl|exact vLd rfl (by repeat constructor) rfl (by rfl)|exact vL0 rfl (by assumption) rfl (by rfl)|exact v_index rfl rfl rfl rfl (by omega) (by omega) (by with_reducible first|exact idx2 _ _|fail)|fail) ?_|refine q_nil ?_|refine q_dec_f rfl rfl rfl rfl (by first|omega|fail) ?_|fail)
   rw [<- hdE]
   refine x_back (k + 1) ⟨hlt, fun y hy => ?_⟩ (by omega) (by repeat (first|exact .nil|refine .cons rfl (by first|rfl|(congr 1; done)|exact congrArg _ (by omega)|(simp; done)) ?_)) (by repeat (first|exact .nil|refine .keep (by first|rfl|assumption) ?_|refine .drop ?_|exact MSub.refl _))
   rw [List.take_add_one, hx] at hy
   rcases List.mem_append.1 hy with h | h
   ·exact hF y h
   ·simp only [Option.toList_some, List.mem_singleton] at h
    rw [h]; exact ⟨by omega, by omega⟩
  ·have hkl : k = r.l.length := by omega
   subst hkl
   rw [List.take_length] at hF
   have hc : bb = true := hb.2 ⟨by omega, by omega, a3, fun e => a4 (by rw [e]; rfl), hinc, hF⟩
   subst hc
   repeat (first|refine lVa rfl rfl (by first|exact pEv rfl|exact vLd rfl (by repeat constructor) rfl (by rfl)|fail) ?_|refine lNi ?_|refine cRg ?_|refine cSq ?_|refine xTh ?_|refine c_dec_f rfl (by first|omega|fail) ?_|refine c_ret ?_|refine c_exit ?_|refine xTe ?_|refine xBs ?_|fail)
   exact x_ret rfl rfl (by repeat constructor) rfl (fun W hW => ⟨rfl, hW.below⟩)
end R24
end Go.Proofs

set_option maxRecDepth 100000
set_option maxHeartbeats 400000000
namespace Go.Proofs
open Go.RowKit Go.Kin Go.Kin.St Go.Kin.Ct Go.Kin.Sg
namespace R24
theorem cmpL_flip {a b : List Int} (h : a.length = b.length) : cmpL b a <= 0 ↔ ¬ cmpL a b < 0 := by
 constructor
 ·intro g1 g2
  rcases Int.lt_or_eq_of_le g1 with g | g
  ·have := cmpL_trans h h.symm g2 g
   rw [cmpL_same] at this; omega
  ·rw [cmpL_zero h.symm] at g
   rw [g, cmpL_same] at g2; omega
 ·intro g
  rcases cmpL_asym h with g1 | g1 | g1
  ·exact absurd g1 g
  ·rw [g1, cmpL_same]; decide
  ·omega
theorem okP_flip {k1 k2 : Int} {a b : List Int} (h : a.length = b.length) : ¬ cmpK k1 a k2 b < 0 ↔ k2 < k1 ∨ k2 = k1 /\ cmpL b a <= 0 := by
 rw [cmpL_flip h]
 unfold cmpK or2 cmpI
 by_cases h1 : k1 < k2
 ·simp only [h1, if_true]; simp; omega
 ·by_cases h2 : k2 < k1
  ·simp only [h1, h2, if_true, if_false]; simp
  ·have : k1 = k2 := by omega
   subst this
   simp
theorem ckS36_calls (u : R23.Un) (T : Int) (S : Option Addr) (cs : Nat) (rows : List DW) (w : World) (hA : u.In w) (hl : u.L.length <= 1000) (hc : u.C.length <= 1000) (hS : StrIn w S rows) (hrl : rows.length <= 1000000)
  (hdl : ∀ r ∈ rows, r.l.length <= 9223372036854775806 /\ r.d.length <= 9223372036854775806) :
  Calls Tryz.prog 29 ⟨[.agg ⟨u.v⟩, .int .i64 T, .slice S rows.length cs]⟩ w fun e w' => e = .returned (.int .i64 (rdC u.n u.L u.C T rows)) /\ Below w.heap.size w w' := by
 have hck : ∀ (mem : List (Nat × Obj)) (W : World), SatW w (base w) noJ mem W -> Calls Tryz.prog 20 ⟨[.agg ⟨u.v⟩, .int .i64 T]⟩ W fun e w' => e = .returned (.int .i64 (chkS u.n u.L u.C T)) /\ Below W.heap.size W w' := fun mem W hW =>
  CheckR_calls u T W (hA.sat hW) hl hc
 obtain ⟨n, A, cap, L, B, cab, C⟩ := u
 simp only [R23.Un.v] at hl hc hck ⊢
 refine fEn Tryz.func29 rfl Tryz.ntmps29 rfl rfl (sWn w) ?_
 repeat (first|refine lVa rfl rfl (by first|exact pEv rfl|exact vLd rfl (by repeat constructor) rfl (by rfl)|fail) ?_|refine lNi ?_|refine cRg ?_|refine cSq ?_|refine xTh ?_|refine r_box rfl rfl rfl rfl (fun _ => ?_)|fail)
 refine r_call rfl rfl rfl (fun W hW => hck _ W hW) ?_
 by_cases h0 : chkS n L C T = 0
 rotate_left
 ·repeat (first|refine lVa rfl rfl (by first|exact pEv rfl|fail) ?_|refine lNi ?_|refine cRg ?_|refine cSq ?_|refine xTh ?_|refine c_dec_t rfl (by first|omega|fail) ?_|refine c_ret ?_|refine xTr ?_|fail)
  exact x_ret rfl rfl (by repeat constructor) rfl (fun W hW => ⟨by rw [rdC_a h0], hW.below⟩)
 rw [h0]
 by_cases h2 : 4096 < rows.length
 ·have hr := rdC_2 (n := n) (L := L) (C := C) (T := T) h0 h2
  repeat (first|refine lVa rfl rfl (by first|exact pEv rfl|fail) ?_|refine lNi ?_|refine cRg ?_|refine cSq ?_|refine xTh ?_|refine c_false rfl ?_|refine c_dec_t rfl (by first|omega|fail) ?_|refine cSk ?_|refine c_ret ?_|refine xTr ?_|fail)
  exact x_ret rfl rfl (by repeat constructor) rfl (fun W hW => ⟨by rw [hr], hW.below⟩)
 obtain ⟨c0, t1, t2, t3, t4, t5⟩ := chkS_ok h0
 obtain ⟨n1, n2⟩ := R23.chkU_ok c0
 obtain ⟨t, rfl⟩ : ∃ t : Nat, T = t := ⟨T.toNat, by omega⟩
 obtain ⟨N, rfl⟩ : ∃ N : Nat, n = N := ⟨n.toNat, by omega⟩
 have hno : ∀ {i : Nat} {r : DW}, rows[i]? = some r -> ¬ okR N t rows i r -> rdC N L C t rows = 240 := fun {i r} hr hn => rdC_no h0 h2 fun h => hn (by have := h i r hr; simpa using this)
 repeat (first|refine lVa rfl rfl (by first|exact pEv rfl|fail) ?_|refine lNi ?_|refine cRg ?_|refine cSq ?_|refine xTh ?_|refine c_false rfl ?_|refine c_dec_f rfl (by first|omega|fail) ?_|refine cBl ?_|refine cSk ?_|fail)
 rename_i b3
 refine c_loop (ι := Nat) (fun i => i <= rows.length /\ ∀ j r, j < i -> rows[j]? = some r -> okR N t rows j r) (fun i => [(1, .int .i64 t), (2, .slice S rows.length cs), (3, .pointer (some ⟨b3, 0, none⟩)), (8, .int .i64 i)])
  (fun i => [(b3, .cells ⟨[.int .i64 N, .slice A L.length cap, .slice B C.length cab]⟩ 24 (0, 0))]) (fun i => rows.length - i) 0 ⟨Nat.zero_le _, fun j r hj => by omega⟩ (by repeat (first|exact .nil|refine .cons rfl (by first|rfl|(congr 1; done)|exact congrArg _ (by omega)|(simp; done)) ?_)) (by repeat (first|exact .nil|refine .keep (by first|rfl|assumption) ?_|refine .drop ?_|exact MSub.refl _)) ?_
 rintro i ⟨hi, hF⟩
 by_cases hlt : i < rows.length
 ·obtain ⟨r, hr⟩ : ∃ r, rows[i]? = some r := ⟨_, List.getElem?_eq_getElem hlt⟩
  have hrm := List.mem_of_getElem? hr
  obtain ⟨bS, oS, hSe, hcr⟩ := hS.r i (dwE r) (by rw [List.getElem?_map, hr]; rfl)
  have he := ext_of hcr
  obtain ⟨hd1, hd2⟩ := hdl r hrm
  have hatk := hS.k r hrm
  have hatd := hS.d r hrm
  subst hSe
  obtain ⟨bd, hbd⟩ : ∃ bd : Bool, bd = true ↔ okQ N t r := ⟨@decide _ (Classical.propDecidable _), @decide_eq_true_iff _ (Classical.propDecidable _)⟩
  have hdc : ∀ {mem : List (Nat × Obj)} {W : World}, SatW w (base w) noJ mem W -> Calls Tryz.prog 57 ⟨[.agg ⟨[.int .i64 N, .slice A L.length cap, .slice B C.length cab]⟩, .int .i64 t, .agg ⟨dwE r⟩]⟩ W fun e w' => e = .returned (.bool bd) /\ Below W.heap.size W w' := fun {mem W} hW =>
   dec62_calls N A cap L B cab C t r bd W (by omega) (by omega) (hatk.sat hW) (hatd.sat hW) hd1 hd2 hbd
  repeat ((fail_if_success refine c_probe (id := 9) ?_); (fail_if_success refine c_probe1 (id := 9) ?_); first|refine lVa rfl rfl (by first|exact pEv rfl|fail) ?_|refine lNi ?_|refine cRg ?_|refine cSq ?_|refine xTh ?_|refine c_dec_t rfl (by first|omega|fail) ?_|refine cBl ?_|refine cSk ?_|fail)
  repeat refine cSq ?_
  refine c_new 0 0 [(6, .cal (.bool bd))] [(6, [])] [] rfl (by decide +kernel) rfl ?_
  repeat (first|refine e_val rfl rfl rfl rfl (by first|exact pEv rfl|exact vLd rfl (by repeat constructor) rfl (by rfl)|exact vL0 rfl (by assumption) rfl (by rfl)|exact v_index rfl rfl rfl rfl (by omega) (by omega) (by with_reducible first|exact idx4 _ _ _|fail)|fail) ?_|fail)
  refine e_call rfl rfl rfl rfl rfl (fun W hW => hdc hW) ?_
  cases bd with
  | false =>
   have hcode := hno hr fun h => absurd (hbd.2 (okR_iff.1 h).1) (by decide)
   repeat (first|refine lVa rfl rfl (by first|exact pEv rfl|fail) ?_|refine lNi ?_|refine cRg ?_|refine cSq ?_|refine xTh ?_|refine c_true rfl ?_|refine c_ret ?_|refine xTr ?_|refine xBr ?_|refine e_val rfl rfl rfl rfl (by first|exact pEv rfl|fail) ?_|refine e_nil rfl ?_|fail)
   exact x_ret rfl rfl (by repeat constructor) rfl (fun W hW => ⟨by rw [hcode], hW.below⟩)
  | true =>
   have hokq := hbd.1 rfl
   repeat ((fail_if_success refine c_probe (id := 12) ?_); (fail_if_success refine c_probe1 (id := 12) ?_); first|refine lVa rfl rfl (by first|exact pEv rfl|fail) ?_|refine lNi ?_|refine cRg ?_|refine cSq ?_|refine xTh ?_|refine c_false rfl ?_|refine cSk ?_|refine e_val rfl rfl rfl rfl (by first|exact pEv rfl|fail) ?_|refine e_nil rfl ?_|fail)
   repeat refine cSq ?_
   cases i with
   | zero =>
    have hpp : okP rows 0 r := fun j p h => by cases h
    have hF2 : ∀ j r, j < 0 + 1 -> rows[j]? = some r -> okR N t rows j r := fun j r' hj' hr' => by
     have e : j = 0 := by omega
     subst e
     rw [hr] at hr'; cases hr'; exact okR_iff.2 ⟨hokq, hpp⟩
    clear hF
    refine c_new 0 0 [(40, .cal (.int .i64 0))] [(40, [])] [] rfl (by decide +kernel) rfl ?_
    repeat (first|refine lVa rfl rfl (by first|exact v_add rfl rfl (by omega) (by omega)|exact pEv rfl|fail) ?_|refine lNi ?_|refine cRg ?_|refine xTh ?_|refine c_false rfl ?_|refine cSk ?_|refine x_block ?_|refine e_val rfl rfl rfl rfl (by first|exact pEv rfl|fail) ?_|refine e_skip rfl rfl ?_|refine e_nil rfl ?_|fail)
    exact x_back (0 + 1) ⟨hlt, hF2⟩ (by omega) (by repeat (first|exact .nil|refine .cons rfl (by first|rfl|(congr 1; done)|exact congrArg _ (by omega)|(simp; done)) ?_)) (by repeat (first|exact .nil|refine .keep (by first|rfl|assumption) ?_|refine .drop ?_|exact MSub.refl _))
   | succ j =>
    have hxr : rows[j]? = some rows[j] := List.getElem?_eq_getElem (by omega)
    obtain ⟨x, hx⟩ : ∃ x, rows[j] = x := ⟨_, rfl⟩
    rw [hx] at hxr
    have hxm := List.mem_of_getElem? hxr
    have hox := hF j x (Nat.lt_succ_self j) hxr
    have hll : x.l.length = r.l.length := by rw [hox.l, hokq.l]
    obtain ⟨bS', oS', hSe', hcx⟩ := hS.r j (dwE x) (by rw [List.getElem?_map, hxr]; rfl)
    cases hSe'
    have he2 : Ext w (base w) bS (oS + (((j + 1 : Nat) : Int) - 1).toNat * 3) (dwE x) := by
     rw [show (((j + 1 : Nat) : Int) - 1).toNat = j by omega]; exact ext_of hcx
    have hpk : okP rows (j + 1) r ↔ cmpK x.k x.l r.k r.l < 0 := ⟨fun h => h j x rfl hxr, fun h j' p e hp => by
     cases e
     rw [hxr] at hp; cases hp; exact h⟩
    have hbad : r.k < x.k ∨ r.k = x.k /\ cmpL r.l x.l <= 0 -> rdC N L C t rows = 240 := fun g => hno hr fun h => (okP_flip hll).2 g (hpk.1 h.p)
    have hcl : ∀ {mem : List (Nat × Obj)} {W : World}, SatW w (base w) noJ mem W -> Calls Tryz.prog 58 ⟨[.slice r.K r.l.length r.ck, .slice x.K x.l.length x.ck]⟩ W fun e w' => e = .returned (.int .i64 (cmpL r.l x.l)) /\ Below W.heap.size W w' := fun {mem W} hW =>
     cmp63_calls r.K x.K r.ck x.ck r.l x.l W (hatk.sat hW) ((hS.k x hxm).sat hW) hd1 hll.symm
    refine c_new 0 0 [(40, .cal (.int .i64 (cmpL r.l x.l)))] [(40, [])] [] rfl (by decide +kernel) rfl ?_
    by_cases x1 : r.k < x.k
    ·have hcode := hbad (.inl x1)
     clear hF hpk hbad
     repeat (first|refine e_val rfl rfl rfl rfl (by first|exact pEv rfl|fail) ?_|fail)
     rw [decide_eq_true (show (0 : Int) < ((j + 1 : Nat) : Int) by omega)]
     repeat (first|refine e_val rfl rfl rfl rfl (by first|exact v_sub rfl rfl (by omega) (by omega)|exact pEv rfl|exact vL0 rfl (by assumption) rfl (by rfl)|exact v_index rfl rfl rfl rfl (by omega) (by omega) (by with_reducible first|exact idx4 _ _ _|exact idx8 _ _ _|fail)|fail) ?_|fail)
     rw [decide_eq_true x1]
     repeat (first|refine lVa rfl rfl (by first|exact pEv rfl|fail) ?_|refine lNi ?_|refine cRg ?_|refine cSq ?_|refine xTh ?_|refine c_true rfl ?_|refine c_ret ?_|refine xTr ?_|refine xBr ?_|refine e_val rfl rfl rfl rfl (by first|exact pEv rfl|fail) ?_|refine e_skip rfl rfl ?_|refine e_nil rfl ?_|fail)
     exact x_ret rfl rfl (by repeat constructor) rfl (fun W hW => ⟨by rw [hcode], hW.below⟩)
    by_cases x2 : r.k = x.k
    ·by_cases x3 : cmpL r.l x.l <= 0
     ·have hcode := hbad (.inr ⟨x2, x3⟩)
      clear hF hpk hbad
      repeat (first|refine e_val rfl rfl rfl rfl (by first|exact pEv rfl|fail) ?_|fail)
      rw [decide_eq_true (show (0 : Int) < ((j + 1 : Nat) : Int) by omega)]
      repeat (first|refine e_val rfl rfl rfl rfl (by first|exact v_sub rfl rfl (by omega) (by omega)|exact pEv rfl|exact vL0 rfl (by assumption) rfl (by rfl)|exact v_index rfl rfl rfl rfl (by omega) (by omega) (by with_reducible first|exact idx4 _ _ _|exact idx8 _ _ _|fail)|fail) ?_|fail)
      rw [decide_eq_false x1]
      repeat (first|refine e_val rfl rfl rfl rfl (by first|exact v_sub rfl rfl (by omega) (by omega)|exact pEv rfl|exact vL0 rfl (by assumption) rfl (by rfl)|exact v_index rfl rfl rfl rfl (by omega) (by omega) (by with_reducible first|exact idx4 _ _ _|exact idx8 _ _ _|fail)|fail) ?_|fail)
      rw [decide_eq_true x2]
      repeat (first|refine e_val rfl rfl rfl rfl (by first|exact v_sub rfl rfl (by omega) (by omega)|exact pEv rfl|exact vLe rfl (by assumption) rfl (by rfl)|exact v_index rfl rfl rfl rfl (by omega) (by omega) (by with_reducible first|exact idx4 _ _ _|exact idx8 _ _ _|fail)|fail) ?_|fail)
      refine e_call rfl rfl rfl rfl rfl (fun W hW => hcl hW) ?_
      repeat (first|refine lVa rfl rfl (by first|exact pEv rfl|fail) ?_|refine lNi ?_|refine cRg ?_|refine cSq ?_|refine xTh ?_|refine c_dec_t rfl (by first|omega|fail) ?_|refine c_ret ?_|refine xTr ?_|refine xBr ?_|refine e_val rfl rfl rfl rfl (by first|exact pEv rfl|fail) ?_|refine e_nil rfl ?_|fail)
      exact x_ret rfl rfl (by repeat constructor) rfl (fun W hW => ⟨by rw [hcode], hW.below⟩)
     ·have hokr : okR N t rows (j + 1) r := okR_iff.2 ⟨hokq, hpk.2 (Classical.byContradiction fun g => by
       rcases (okP_flip hll).1 g with g | g
       ·omega
       ·exact x3 g.2)⟩
      have hF2 : ∀ i r, i < j + 1 + 1 -> rows[i]? = some r -> okR N t rows i r := fun i r' hj' hr' => by
       by_cases hji : i < j + 1
       ·exact hF i r' hji hr'
       ·have e : i = j + 1 := by omega
        subst e
        rw [hr] at hr'; cases hr'; exact hokr
      clear hF hpk hbad
      repeat (first|refine e_val rfl rfl rfl rfl (by first|exact pEv rfl|fail) ?_|fail)
      rw [decide_eq_true (show (0 : Int) < ((j + 1 : Nat) : Int) by omega)]
      repeat (first|refine e_val rfl rfl rfl rfl (by first|exact v_sub rfl rfl (by omega) (by omega)|exact pEv rfl|exact vL0 rfl (by assumption) rfl (by rfl)|exact v_index rfl rfl rfl rfl (by omega) (by omega) (by with_reducible first|exact idx4 _ _ _|exact idx8 _ _ _|fail)|fail) ?_|fail)
      rw [decide_eq_false x1]
      repeat (first|refine e_val rfl rfl rfl rfl (by first|exact v_sub rfl rfl (by omega) (by omega)|exact pEv rfl|exact vL0 rfl (by assumption) rfl (by rfl)|exact v_index rfl rfl rfl rfl (by omega) (by omega) (by with_reducible first|exact idx4 _ _ _|exact idx8 _ _ _|fail)|fail) ?_|fail)
      rw [decide_eq_true x2]
      repeat (first|refine e_val rfl rfl rfl rfl (by first|exact v_sub rfl rfl (by omega) (by omega)|exact pEv rfl|exact vLe rfl (by assumption) rfl (by rfl)|exact v_index rfl rfl rfl rfl (by omega) (by omega) (by with_reducible first|exact idx4 _ _ _|exact idx8 _ _ _|fail)|fail) ?_|fail)
      refine e_call rfl rfl rfl rfl rfl (fun W hW => hcl hW) ?_
      repeat (first|refine lVa rfl rfl (by first|exact v_add rfl rfl (by omega) (by omega)|exact pEv rfl|fail) ?_|refine lNi ?_|refine cRg ?_|refine xTh ?_|refine c_dec_f rfl (by first|omega|fail) ?_|refine cSk ?_|refine x_block ?_|refine e_val rfl rfl rfl rfl (by first|exact pEv rfl|fail) ?_|refine e_nil rfl ?_|fail)
      exact x_back (j + 1 + 1) ⟨hlt, hF2⟩ (by omega) (by repeat (first|exact .nil|refine .cons rfl (by first|rfl|(congr 1; done)|exact congrArg _ (by omega)|(simp; done)) ?_)) (by repeat (first|exact .nil|refine .keep (by first|rfl|assumption) ?_|refine .drop ?_|exact MSub.refl _))
    ·have hokr : okR N t rows (j + 1) r := okR_iff.2 ⟨hokq, hpk.2 (Classical.byContradiction fun g => by
      rcases (okP_flip hll).1 g with g | g
      ·omega
      ·exact x2 g.1)⟩
     have hF2 : ∀ i r, i < j + 1 + 1 -> rows[i]? = some r -> okR N t rows i r := fun i r' hj' hr' => by
      by_cases hji : i < j + 1
      ·exact hF i r' hji hr'
      ·have e : i = j + 1 := by omega
       subst e
       rw [hr] at hr'; cases hr'; exact hokr
     clear hF hpk hbad
     repeat (first|refine e_val rfl rfl rfl rfl (by first|exact pEv rfl|fail) ?_|fail)
     rw [decide_eq_true (show (0 : Int) < ((j + 1 : Nat) : Int) by omega)]
     repeat (first|refine e_val rfl rfl rfl rfl (by first|exact v_sub rfl rfl (by omega) (by omega)|exact pEv rfl|exact vL0 rfl (by assumption) rfl (by rfl)|exact v_index rfl rfl rfl rfl (by omega) (by omega) (by with_reducible first|exact idx4 _ _ _|exact idx8 _ _ _|fail)|fail) ?_|fail)
     rw [decide_eq_false x1]
     repeat (first|refine e_val rfl rfl rfl rfl (by first|exact v_sub rfl rfl (by omega) (by omega)|exact pEv rfl|exact vL0 rfl (by assumption) rfl (by rfl)|exact v_index rfl rfl rfl rfl (by omega) (by omega) (by with_reducible first|exact idx4 _ _ _|exact idx8 _ _ _|fail)|fail) ?_|fail)
     rw [decide_eq_false x2]
     repeat (first|refine lVa rfl rfl (by first|exact v_add rfl rfl (by omega) (by omega)|exact pEv rfl|fail) ?_|refine lNi ?_|refine cRg ?_|refine xTh ?_|refine c_false rfl ?_|refine cSk ?_|refine x_block ?_|refine e_val rfl rfl rfl rfl (by first|exact pEv rfl|fail) ?_|refine e_skip rfl rfl ?_|refine e_nil rfl ?_|fail)
     exact x_back (j + 1 + 1) ⟨hlt, hF2⟩ (by omega) (by repeat (first|exact .nil|refine .cons rfl (by first|rfl|(congr 1; done)|exact congrArg _ (by omega)|(simp; done)) ?_)) (by repeat (first|exact .nil|refine .keep (by first|rfl|assumption) ?_|refine .drop ?_|exact MSub.refl _))
 ·have hil : i = rows.length := by omega
  subst hil
  have hok : okS (N : Int).toNat (t : Int).toNat rows := fun j r hr => by
   rw [Int.toNat_natCast, Int.toNat_natCast]; exact hF j r (List.getElem?_eq_some_iff.1 hr).1 hr
  have hcode := rdC_0 h0 h2 hok
  repeat (first|refine lVa rfl rfl (by first|exact pEv rfl|fail) ?_|refine lNi ?_|refine cRg ?_|refine cSq ?_|refine xTh ?_|refine c_dec_f rfl (by first|omega|fail) ?_|refine c_ret ?_|refine c_exit ?_|refine xTe ?_|refine xBs ?_|fail)
  exact x_ret rfl rfl (by repeat constructor) rfl (fun W hW => ⟨by rw [hcode], hW.below⟩)
end R24
end Go.Proofs

namespace Go
open Go.RowKit Go.Sort
namespace Kin
section
variable {P : Program} {N : Nat} {c : Cx} {env : List (Nat × Value)} {mem : List (Nat × Obj)} {tt : List (TypeId × TI)}
 {ty : TypeId} {pos : String} {af : Array Edge} {g : Option (Nat × Bool)} {dd : Option Tmp}
/-- a known map that lies outside, looked up -/
theorem v_pkGetX [T : TT P tt] {t kt ta ti et b sz bt sz2 bt2 : Nat} {m kx : Operand} {k : Int} {f : Nat -> Int} {s : List ((Int × (Nat -> Int)) × Value)} {z z2 out : Value} {kd : TK} {ok : Bool}
  (hm0 : evOp env m = some (.map (some b))) (hk : evOp env kx = some (.agg ⟨pkC k f⟩)) (ht : look tt t = some ⟨.map kt et, sz, bt, z⟩) (K : PkT P tt kt ta ti) (het : look tt et = some ⟨kd, sz2, bt2, z2⟩)
  (hin : c.w0.heap[b]? = some (pkO s)) (hD : c.D b) (ho : (match pkGet s k f with | some v => (match ok with | true => Value.tuple ⟨[v, .bool true]⟩ | false => v) | none => (match ok with | true => Value.tuple ⟨[z2, .bool false]⟩ | false => z2)) = out) :
  OpVal P N c env mem ⟨dd, .lookup t m kx ok, ty, pos, af, g⟩ out :=
 ⟨rfl, fun a W ha hm => by
  have hb := (hm.same.block b (Array.getElem?_eq_some_iff.1 hin).1 hD).trans hin
  have hmu : P.underlying t = some (.map kt et) := (TT.look (P := P) ht).1
  obtain ⟨_, i, hi, _, _, hz⟩ := TT.look (P := P) het
  have hz2 : (zeroValue et).run P W = .ok z2 W := by
   simp only [zeroValue, Sem.run_bind, run_info hi, Result.andThen_ok, hz]; rfl
  unfold pkO at hb
  have hr := run_findPk K (ents := pkM 0 s) (fun e he => pkM_pk he) k f W
  have hp := pkM_find (k := k) (f := f) s 0 0
  subst ho
  cases hfb : findB (pkB k f) (pkM 0 s) 0 with
  | none =>
   rw [hfb] at hr hp
   rw [<- hp]
   cases ok <;>
   ·simp only [execOp, ha.eval hm0, ha.eval hk, Instr.lookup, Sem.run_bind, run_und hmu, Result.andThen_ok, MapKept.run_getObj_map hb, run_checkPk K, hr, hz2, Sem.run_pure]
    rfl
  | some p =>
   obtain ⟨j, u⟩ := p
   rw [hfb] at hr hp
   rw [<- hp]
   cases ok <;>
   ·simp only [execOp, ha.eval hm0, ha.eval hk, Instr.lookup, Sem.run_bind, run_und hmu, Result.andThen_ok, MapKept.run_getObj_map hb, run_checkPk K, hr, Sem.run_pure]
    rfl⟩
theorem x_part {Q : Exit -> Act -> World -> Prop} {e : Exit} {mem' : List (Nat × Obj)} (extra : List (Nat × Obj)) (hp : mem.Perm (extra ++ mem')) (k : RunX N c Q e env mem') : RunX N c Q e env mem := .mk fun a W ha hm => k.run a W ha ((hm.perm hp).mono (List.sublist_append_right _ _))
end
end Kin
end Go

set_option maxRecDepth 100000
set_option maxHeartbeats 400000000
namespace Go.Proofs
open Go.RowKit Go.Kin Go.Kin.St Go.Kin.Ct Go.Kin.Sg
namespace R24
def capsW (bT bG bM bF : Nat) : List Value := [.pointer (some ⟨bT, 0, none⟩), .pointer (some ⟨bG, 0, none⟩), .pointer (some ⟨bM, 0, none⟩), .pointer (some ⟨bF, 0, none⟩)]
/-- what a walk of a strategy finds -/
structure WEnv (b : GB) (a bT bG bM bF bm fn : Nat) (rows : List DW) (w : World) : Prop where
 g : GIn b a w
 cT : w.cell? ⟨bT, 0, none⟩ = some (.int .i64 b.T)
 cG : w.cell? ⟨bG, 0, none⟩ = some (.pointer (some ⟨a, 0, none⟩))
 cM : w.cell? ⟨bM, 0, none⟩ = some (.map (some bm))
 cF : w.cell? ⟨bF, 0, none⟩ = some (.func (.func fn) ⟨[]⟩ ⟨capsW bT bG bM bF⟩)
 m : w.heap[bm]? = some (pkO (kvR rows))
 d : ∀ r ∈ rows, At w r.D 1 (r.d.map inE)
theorem WEnv.later {b : GB} {a bT bG bM bF bm fn : Nat} {rows : List DW} {w W : World} (h : WEnv b a bT bG bM bF bm fn rows w) (hb : Below w.heap.size w W) : WEnv b a bT bG bM bF bm fn rows W :=
 ⟨h.g.later hb, (hb.cell (lt_of_cell h.cT)).trans h.cT, (hb.cell (lt_of_cell h.cG)).trans h.cG, (hb.cell (lt_of_cell h.cM)).trans h.cM, (hb.cell (lt_of_cell h.cF)).trans h.cF,
  (hb.block _ (Array.getElem?_eq_some_iff.1 h.m).1).trans h.m, fun r hr => (h.d r hr).later hb⟩
theorem ext1 {w : World} {b : Nat} {v : Value} (h : w.cell? ⟨b, 0, none⟩ = some v) : Ext w (base w) b 0 [v] := ext_of fun j u hj => by
 cases j with
 | zero => cases hj; exact h
 | succ j => cases hj
/-- the set that a table gives, as it lies -/
theorem tab_slice {b : GB} {a bT bG bM bF bm fn : Nat} {rows : List DW} {T : Nat} (hok : okS b.n T rows) (k : Nat) (q : List Int) :
  ∃ A cap, (match (rowOf rows k q).map fun r => Value.slice r.D r.d.length r.cd with | some v => v | none => .slice none 0 0) = .slice A (doD (tabW rows) k q).length cap /\ (∀ x ∈ doD (tabW rows) k q, x < b.n) /\ ∀ w, WEnv b a bT bG bM bF bm fn rows w -> At w A 1 ((doD (tabW rows) k q).map nE) := by
 unfold doD tabW
 cases hr : rowOf rows k q with
 | none => exact ⟨none, 0, rfl, fun x hx => (by cases hx), fun w _ i r h => by simp at h⟩
 | some r =>
  obtain ⟨hm, _, _⟩ := rowOf_some hr
  obtain ⟨i, hi, hri⟩ := List.mem_iff_getElem.1 hm
  have ho := (hok i r (by rw [List.getElem?_eq_getElem hi, hri])).o
  refine ⟨r.D, r.cd, ?_, fun x hx => ?_, fun w h => ?_⟩
  ·simp [toN]
  ·simp only [Option.map_some, Option.getD_some, toN] at hx
   obtain ⟨y, hy, rfl⟩ := List.mem_map.1 hx
   obtain ⟨j, hj, rfl⟩ := List.mem_iff_getElem.1 hy
   have := pv_inc ho (List.getElem?_eq_getElem hj)
   omega
  ·have h1 := h.d r hm
   have e : (toN r.d).map nE = r.d.map inE := by
    conv => rhs; rw [<- toN_back ho]
    rw [List.map_map]; rfl
   simp only [Option.map_some, Option.getD_some]
   rw [e]; exact h1
noncomputable def wnB (b : GB) (rows : List DW) (f k : Nat) (l : List Int) : Bool := @decide (Wn b.g (tabW rows) f k l) (Classical.propDecidable _)
theorem wnB_iff {b : GB} {rows : List DW} {f k : Nat} {l : List Int} : wnB b rows f k l = true ↔ Wn b.g (tabW rows) f k l := @decide_eq_true_iff _ (Classical.propDecidable _)
theorem wins49_end (b : GB) (a bT bG bM bF bm : Nat) (rows : List DW) (hb : GOK b) (k : Nat) (hk : k = b.T + 1) (l : List Int) (w : World) (hl : PosN b l) (he : WEnv b a bT bG bM bF bm 23 rows w) :
  Calls Tryz.prog 23 ⟨[] ++ [.agg ⟨plC k (kn l)⟩] ++ capsW bT bG bM bF⟩ w fun e w' => e = .returned (.bool (wnB b rows 0 k l)) /\ Below w.heap.size w w' := by
 have hT := hb.T
 have eT := ext1 he.cT
 have eG := ext1 he.cG
 have hkp : wnB b rows 0 k l = kpB b.g l := rfl
 rw [hkp]
 refine fEn Tryz.func23 rfl Tryz.ntmps23 rfl rfl (sWn w) ?_
 repeat (first|refine lVa rfl rfl (by first|exact pEv rfl|exact vLd rfl (by repeat constructor) rfl (by rfl)|exact vL0 rfl (by assumption) rfl (by rfl)|fail) ?_|refine lNi ?_|refine cRg ?_|refine cSq ?_|refine xTh ?_|refine r_box rfl rfl rfl rfl (fun _ => ?_)|refine r_alloc rfl rfl rfl (by first|exact aggL|fail) (fun _ => ?_)|refine c_dec_t rfl (by first|omega|fail) ?_|fail)
 refine r_call rfl rfl rfl (fun W hW => kept_calls b a k l W hb.n hl.1 (fun x hx => by have := hl.2 x hx; omega) hb.l hb.ck (he.later hW.below).g) ?_
 repeat (first|refine lNi ?_|refine xTh ?_|refine rSt rfl rfl rfl rfl rfl rfl rfl (by repeat constructor) (by rfl) ?_|refine c_ret ?_|refine xTr ?_|fail)
 exact x_ret rfl rfl (by repeat constructor) rfl (fun W hW => ⟨rfl, hW.below⟩)
end R24
end Go.Proofs

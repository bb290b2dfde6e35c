/- Uncertain networks: the program's steps of uses. -/
import Derived.Test.YtcodoembnjemkaaCtT
import Derived.Test.YtcodoembnjemkaaStEar
import Derived.Test.YtcodoembnjemkaaSgA
import Derived.Test.YtcodoembnjemkaaCtIc
set_option maxRecDepth 100000
set_option maxHeartbeats 400000000
set_option linter.unusedSectionVars false
set_option linter.unusedVariables false
set_option linter.unusedSimpArgs false
namespace Go.Proofs
open Go.RowKit Go.Kin Go.Kin.St Go.Kin.Ct
open R22
namespace R23
/-- a type of functions that the table lacks -/
def t151 : List (TypeId × TI) := [(151, ⟨.other, 1, 8, .nilFunc⟩)]
theorem ti151 : TIOk Try.prog 151 ⟨.other, 1, 8, .nilFunc⟩ := ti_mk (tk_other (by kernel_rfl)) (by kernel_rfl)
theorem tt151 : TT Try.prog t151 := ⟨tt_cons ti151 <| tt_nil⟩
def usE (u : Us) : List Value := [.int .i64 u.link, .bool u.lower]
def ukV (u : Us) : Value := .agg ⟨usE u⟩
/-- one side of a link, if there is such a link -/
def redU (C : List Lk) (N : Nat) (L : List Lk) (u : Us) : Ed := match L[u.link.toNat]? with | some x => redS C N u.lower x | none => ⟨0, 0, 0⟩
theorem redU_of {C L : List Lk} {N : Nat} {u : Us} {x : Lk} (h : L[u.link.toNat]? = some x) : redU C N L u = redS C N u.lower x := by unfold redU; rw [h]
/-! ## What is known -/
def EntU (F : Us -> Ed) (e : MapEntry) : Prop := ∃ u, e.key = ukV u /\ e.val = .agg ⟨edE (F u)⟩
def hitU (u : Us) (v : Value) : Bool := (eqV tt [43, 67, 103, 105, 111, 148] 8 103 (ukV u) v).getD false
theorem hit_key (u s : Us) : eqV tt [43, 67, 103, 105, 111, 148] 8 103 (ukV u) (ukV s) = some (decide (u.link = s.link) && decide (u.lower = s.lower)) := rfl
theorem hitU_key (u s : Us) : hitU u (ukV s) = (decide (u.link = s.link) && decide (u.lower = s.lower)) := rfl
theorem hit_run {F : Us -> Ed} {ents : List MapEntry} (h : ∀ e ∈ ents, EntU F e) (u : Us) : ∀ e ∈ ents, ∀ W : World, (Op.equal 103 (ukV u) e.key).run Try.prog W = .ok (hitU u e.key) W := by
 intro e he W
 obtain ⟨s, hs, _⟩ := h e he
 rw [hs, hitU_key]
 exact eq_run (hit_key u s)
theorem hit_find {F : Us -> Ed} {ents : List MapEntry} (h : ∀ e ∈ ents, EntU F e) (u : Us) (i : Nat) : ∀ j v, findB (hitU u) ents i = some (j, v) -> v = .agg ⟨edE (F u)⟩ := by
 induction ents generalizing i with
 | nil => intro j v hf; cases hf
 | cons e ents ih =>
  intro j v hf
  obtain ⟨s, hs, hv⟩ := h e List.mem_cons_self
  unfold findB at hf
  cases hh : hitU u e.key with
  | false => rw [hh] at hf; exact ih (fun e he => h e (List.mem_cons_of_mem _ he)) (i + 1) j v hf
  | true =>
   rw [hh] at hf
   simp only [Option.some.injEq, Prod.mk.injEq] at hf
   rw [hs, hitU_key] at hh
   simp only [Bool.and_eq_true, decide_eq_true_eq] at hh
   have : u = s := by cases u; cases s; simp only at hh; rw [hh.1, hh.2]
   rw [<- hf.2, hv, this]
/-! ## Gaps -/
theorem and_pow (n i : Nat) : n &&& 2 ^ i = if n.testBit i = true then 2 ^ i else 0 := by
 apply Nat.eq_of_testBit_eq
 intro j
 rw [Nat.testBit_and, Nat.testBit_two_pow]
 by_cases e : i = j
 ·subst e
  cases h : n.testBit i
  ·simp
  ·rw [if_pos rfl, Nat.testBit_two_pow_self]; simp
 ·rw [decide_eq_false e, Bool.and_false]
  split
  ·rw [Nat.testBit_two_pow_of_ne e]
  ·simp
theorem bit_in {l : List Nat} {i : Nat} (h : i ∈ l) : bitsOf l (i / 64) &&& 2 ^ (i % 64) = 2 ^ (i % 64) := by
 have hb := bits_test l (i / 64) (i % 64) (Nat.mod_lt _ (by decide))
 rw [and_pow, hb, show i / 64 * 64 + i % 64 = i by omega, decide_eq_true h, if_pos rfl]
theorem bit_out {l : List Nat} {i : Nat} (h : i ∉ l) : bitsOf l (i / 64) &&& 2 ^ (i % 64) = 0 := by
 have hb := bits_test l (i / 64) (i % 64) (Nat.mod_lt _ (by decide))
 rw [and_pow, hb, show i / 64 * 64 + i % 64 = i by omega, decide_eq_false h]
 exact if_neg (by decide)
theorem bit_dec (l : List Nat) (i : Nat) : decide (((bitsOf l (i / 64) &&& 2 ^ (i % 64) : Nat) : Int) ≠ 0) = decide (i ∈ l) := by
 by_cases h : i ∈ l
 ·rw [bit_in h, decide_eq_true h]
  have := Nat.two_pow_pos (i % 64)
  exact decide_eq_true (by omega)
 ·rw [bit_out h, decide_eq_false h]
  rfl
theorem one_shl {i : Nat} : 1 * 2 ^ (i % 64) % 18446744073709551616 = 2 ^ (i % 64) := by
 rw [Nat.one_mul]
 exact Nat.mod_eq_of_lt (show 2 ^ (i % 64) < 2 ^ 64 from Nat.pow_lt_pow_right (by decide) (Nat.mod_lt _ (by decide)))
theorem pow_lt (i : Nat) : 2 ^ (i % 64) < 18446744073709551616 := show 2 ^ (i % 64) < 2 ^ 64 from Nat.pow_lt_pow_right (by decide) (Nat.mod_lt _ (by decide))
theorem hT_at {C : List Lk} {N p q : Nat} (hp : p < N) (hq : q < 4) : hT C N N (p * 4 + q) = bitsOf (chain C N p) q := by
 unfold hT
 have e1 : (p * 4 + q) / 4 = p := by omega
 have e2 : (p * 4 + q) % 4 = q := by omega
 rw [e1, e2, if_pos hp]
theorem tree_chain {C : List Lk} {N p q : Nat} (hp : p < N) (hN : N <= 64) (hq : q < 4) : (theTree C N)[128 + p * 4 + q]? = some (.int .u64 (bitsOf (chain C N p) q : Nat)) := by
 unfold theTree
 rw [treeL_h (by omega) hq, hT_at hp hq]
theorem tree_root {C : List Lk} {N p : Nat} (hp : p < N) (hN : N <= 64) : (theTree C N)[64 + p]? = some (.int .i64 (root C N p)) := by
 unfold theTree
 rw [treeL_g (by omega)]
 unfold gT
 rw [if_pos hp]
theorem theTree_len {C : List Lk} {N : Nat} : (theTree C N).length = 384 := treeL_len
theorem gapT_both {C : List Lk} {a b : List Nat} {i : Nat} (ha : i ∈ a) (hb : i ∈ b) : gapT C a b i = 0 := by unfold gapT; rw [if_neg (fun h => h.2 ha), if_neg (fun h => h.2 hb)]
theorem gapT_none {C : List Lk} {a b : List Nat} {i : Nat} (ha : i ∉ a) (hb : i ∉ b) : gapT C a b i = 0 := by unfold gapT; rw [if_neg (fun h => hb h.1), if_neg (fun h => ha h.1)]
theorem gapT_up {C : List Lk} {a b : List Nat} {i : Nat} {x : Lk} (hx : C[i]? = some x) (ha : i ∉ a) (hb : i ∈ b) : gapT C a b i = x.hi := by unfold gapT hiOf; rw [if_pos ⟨hb, ha⟩, hx]
theorem gapT_dn {C : List Lk} {a b : List Nat} {i : Nat} {x : Lk} (hx : C[i]? = some x) (ha : i ∈ a) (hb : i ∉ b) : gapT C a b i = - x.lo := by unfold gapT loOf; rw [if_neg (fun h => hb h.1), if_pos ⟨ha, hb⟩, hx]
theorem gap_calls (u : Un) (N p q bu bt : Nat) (w : World) (hn : u.n = N) (hN : N <= 64) (hA : u.In w) (hl : u.C.length <= 256) (hT : Tree N u.C) (hp : p < N) (hq : q < N)
  (hu : w.heap[bu]? = some (.cells ⟨u.v⟩ 24 (0, 0))) (ht : w.heap[bt]? = some (.cells ⟨theTree u.C N⟩ 111 (0, 0))) :
  Calls Try.prog 98 ⟨[.int .i64 p, .int .i64 q, .pointer (some ⟨bu, 0, none⟩), .pointer (some ⟨bt, 0, none⟩)]⟩ w fun e w' => e = .returned (.int .i64 (gap u.C N p q)) /\ Below w.heap.size w w' := by
 have hB := hA.c
 obtain ⟨n, A, cap, L, B, cab, C⟩ := u
 simp only [Un.v] at hB hl hn hT hu ht ⊢
 subst hn
 have hue : Ext w (base w) bu 0 [.int .i64 N, .slice A L.length cap, .slice B C.length cab] := ⟨lt_of_heap hu, fun i v hi => by unfold World.cell?; rw [hu, Nat.zero_add]; simpa using hi⟩
 have hte : Ext w (base w) bt 0 (theTree C N) := ⟨lt_of_heap ht, fun i v hi => by unfold World.cell?; rw [ht, Nat.zero_add]; simpa using hi⟩
 refine fEn Try.func98 rfl Try.ntmps98 rfl rfl (sWn w) ?_
 repeat (first|refine lVa rfl rfl (by first|exact pEv rfl|exact vLe rfl (by assumption) rfl (by rfl)|fail) ?_|refine lNi ?_|refine cRg ?_|refine cSq ?_|refine xTh ?_|refine cBl ?_|fail)
 refine c_loop (ι := Nat) (fun k => k <= C.length) (fun k => [(0, .int .i64 p), (1, .int .i64 q), (2, .pointer (some ⟨bu, 0, none⟩)), (3, .pointer (some ⟨bt, 0, none⟩)), (6, .int .i64 (sum k (gapT C (chain C N p) (chain C N q)))), (13, .slice B C.length cab), (14, .int .i64 C.length), (15, .int .i64 k)])
  (fun _ => []) (fun k => C.length - k) 0 (Nat.zero_le _) (by repeat (first|exact .nil|refine .cons rfl (by first|rfl|(congr 1; done)|exact congrArg _ (by omega)|(simp; done)) ?_)) (MSub.nil) ?_
 intro k hk
 by_cases hlt : k < C.length
 ·obtain ⟨x, hx⟩ : ∃ x, C[k]? = some x := ⟨_, List.getElem?_eq_getElem hlt⟩
  obtain ⟨b', o, rfl, hc⟩ := hB k (lkE x) (by simp [hx])
  have he := ext_of hc
  have hP := tree_chain (C := C) hp hN (show k / 64 < 4 by omega)
  have hQ := tree_chain (C := C) hq hN (show k / 64 < 4 by omega)
  have hb1 : bitsOf (chain C N p) (k / 64) < 18446744073709551616 := bits_lt _ _
  have hb2 : bitsOf (chain C N q) (k / 64) < 18446744073709551616 := bits_lt _ _
  have hpl := pow_lt k
  have hpz : 2 ^ (k % 64) ≠ 0 := Nat.pos_iff_ne_zero.1 (Nat.two_pow_pos _)
  have hsb := sum_bd (m := k) (f := gapT C (chain C N p) (chain C N q)) (K := 1099511627776) fun i hi => gapT_bd hT _ _ (by omega)
  have hgb := gapT_bd hT (chain C N p) (chain C N q) hlt
  have hst : sum (k + 1) (gapT C (chain C N p) (chain C N q)) = sum k (gapT C (chain C N p) (chain C N q)) + gapT C (chain C N p) (chain C N q) k := rfl
  repeat ((fail_if_success refine c_probe (id := 5) ?_); (fail_if_success refine c_probe1 (id := 5) ?_); first|refine lVa rfl rfl (v_remN (n := 64) rfl rfl (by decide)) ?_|refine lVa rfl rfl (by first|exact v_ushl rfl rfl (by omega)|exact pEv rfl|exact vL0 rfl (by assumption) rfl (by rfl)|exact v_index rfl rfl rfl rfl (by omega) (by omega) (by with_reducible first|exact idx4 _ _ _|fail)|fail) ?_|refine lNi ?_|refine cRg ?_|refine cSq ?_|refine xTh ?_|refine r_alloc rfl rfl rfl (by first|exact aggL|fail) (fun _ => ?_)|refine rSt rfl rfl rfl rfl rfl rfl rfl (by repeat constructor) (by rfl) ?_|refine c_dec_t rfl (by first|omega|fail) ?_|refine cBl ?_|refine cSk ?_|fail)
  rw [one_shl]
  have hPe : Ext w (base w) bt (0 + 128 + p * 4 + k / 64) [.int .u64 (bitsOf (chain C N p) (k / 64) : Nat)] := by have h := hte.at hP; rw [show 0 + (128 + p * 4 + k / 64) = 0 + 128 + p * 4 + k / 64 by omega] at h; exact h
  have hQe : Ext w (base w) bt (0 + 128 + q * 4 + k / 64) [.int .u64 (bitsOf (chain C N q) (k / 64) : Nat)] := by have h := hte.at hQ; rw [show 0 + (128 + q * 4 + k / 64) = 0 + 128 + q * 4 + k / 64 by omega] at h; exact h
  repeat ((fail_if_success refine c_probe (id := 6) ?_); (fail_if_success refine c_probe1 (id := 6) ?_); first|refine q_val rfl rfl (v_quoN (n := 64) rfl rfl (by decide) (by omega)) ?_|refine cSq ?_|refine xTh ?_|refine cBl ?_|refine c_reads rfl (by decide +kernel) ?_|refine q_val rfl rfl (by first|exact v_uand rfl rfl (by omega) (by omega)|exact pEv rfl|exact vL0 rfl (by assumption) rfl (by rfl)|exact v_indexA rfl rfl rfl rfl (by omega) (by omega) (by with_reducible first|exact idx2 _ _|exact idx4 _ _ _|fail)|fail) ?_|refine q_nil ?_|fail)
  refine c_keep [0, 1, 2, 3, 6, 7, 8, 10, 11, 13, 14, 15] rfl ?_
  rw [bit_dec, bit_dec]
  have hB : k < C.length := hlt
  by_cases hiP : k ∈ chain C N p
  ·rw [decide_eq_true hiP]
   by_cases hiQ : k ∈ chain C N q
   ·rw [decide_eq_true hiQ]
    rw [gapT_both hiP hiQ] at hst
    repeat (first|refine lVa rfl rfl (by first|exact v_add rfl rfl (by omega) (by omega)|exact pEv rfl|fail) ?_|refine lNi ?_|refine cRg ?_|refine cSq ?_|refine xTh ?_|refine c_false rfl ?_|refine cSk ?_|refine x_block ?_|fail)
    exact x_back (k + 1) hB (by omega) (by repeat (first|exact .nil|refine .cons rfl (by first|rfl|(congr 1; done)|exact congrArg _ (by omega)|(simp; done)) ?_)) MSub.nil
   ·rw [decide_eq_false hiQ]
    rw [gapT_dn hx hiP hiQ] at hst hgb
    repeat (first|refine lVa rfl rfl (by first|exact v_add rfl rfl (by omega) (by omega)|exact v_sub rfl rfl (by omega) (by omega)|exact pEv rfl|exact vLd rfl (by repeat constructor) rfl (by rfl)|fail) ?_|refine lNi ?_|refine cRg ?_|refine cSq ?_|refine xTh ?_|refine l_skip rfl rfl ?_|refine c_true rfl ?_|refine c_false rfl ?_|refine x_block ?_|fail)
    exact x_back (k + 1) hB (by omega) (by repeat (first|exact .nil|refine .cons rfl (by first|rfl|(congr 1; done)|exact congrArg _ (by omega)|(simp; done)) ?_)) MSub.nil
  ·rw [decide_eq_false hiP]
   by_cases hiQ : k ∈ chain C N q
   ·rw [decide_eq_true hiQ]
    rw [gapT_up hx hiP hiQ] at hst hgb
    repeat (first|refine lVa rfl rfl (by first|exact v_add rfl rfl (by omega) (by omega)|exact pEv rfl|exact vLd rfl (by repeat constructor) rfl (by rfl)|fail) ?_|refine lNi ?_|refine cRg ?_|refine cSq ?_|refine xTh ?_|refine c_true rfl ?_|refine x_block ?_|fail)
    exact x_back (k + 1) hB (by omega) (by repeat (first|exact .nil|refine .cons rfl (by first|rfl|(congr 1; done)|exact congrArg _ (by omega)|(simp; done)) ?_)) MSub.nil
   ·rw [decide_eq_false hiQ]
    rw [gapT_none hiP hiQ] at hst
    repeat (first|refine lVa rfl rfl (by first|exact v_add rfl rfl (by omega) (by omega)|exact pEv rfl|fail) ?_|refine lNi ?_|refine cRg ?_|refine cSq ?_|refine xTh ?_|refine l_skip rfl rfl ?_|refine c_false rfl ?_|refine cSk ?_|refine x_block ?_|fail)
    exact x_back (k + 1) hB (by omega) (by repeat (first|exact .nil|refine .cons rfl (by first|rfl|(congr 1; done)|exact congrArg _ (by omega)|(simp; done)) ?_)) MSub.nil
 ·have hke : k = C.length := by omega
  subst hke
  repeat (first|refine lVa rfl rfl (by first|exact pEv rfl|fail) ?_|refine lNi ?_|refine cRg ?_|refine cSq ?_|refine xTh ?_|refine c_dec_f rfl (by first|omega|fail) ?_|refine c_ret ?_|refine c_exit ?_|refine xTe ?_|refine xBs ?_|fail)
  exact x_ret rfl rfl (by repeat constructor) rfl (fun W hW => ⟨rfl, hW.below⟩)
/-! ## The step of a use -/
/-- what the closure holds: its own boxes, and what is known -/
structure OfB where
 m : Nat
 mc : Nat
 u : Nat
 t : Nat
 g : Nat
structure OfIn (u : Un) (N : Nat) (b : OfB) (w : World) : Prop where
 mc : w.heap[b.mc]? = some (.cells ⟨[.map (some b.m)]⟩ 157 (0, 0))
 ub : w.heap[b.u]? = some (.cells ⟨u.v⟩ 24 (0, 0))
 t : w.heap[b.t]? = some (.cells ⟨theTree u.C N⟩ 111 (0, 0))
 g : w.heap[b.g]? = some (.cells ⟨[.func (.func 98) ⟨[]⟩ ⟨[.pointer (some ⟨b.u, 0, none⟩), .pointer (some ⟨b.t, 0, none⟩)]⟩]⟩ 151 (0, 0))
def OfB.v (b : OfB) : Value := .func (.func 99) ⟨[]⟩ ⟨[.pointer (some ⟨b.mc, 0, none⟩), .pointer (some ⟨b.u, 0, none⟩), .pointer (some ⟨b.t, 0, none⟩), .pointer (some ⟨b.g, 0, none⟩)]⟩
/-- entries of what is known -/
structure MEnt where
 es : List MapEntry
 ck : Nat
def MEnt.o (m : MEnt) : Obj := .map ⟨m.es⟩ m.ck
theorem side_wt {N : Nat} {L : List Lk} (hF : Fine N L) {x : Lk} (hx : x ∈ L) (lower : Bool) : -1099511627776 <= sideW lower x /\ sideW lower x <= 1099511627776 := by
 have hfx := hF x hx
 unfold Lk.Fine at hfx
 unfold sideW
 cases lower
 ·simp only [Bool.false_eq_true, if_false]; omega
 ·simp only [if_pos]; omega
theorem extOf {w : World} {b : Nat} {cs : List Value} {T : TypeId} {D : Nat -> Prop} (h : w.heap[b]? = some (.cells ⟨cs⟩ T (0, 0))) (hD : D b) : Ext w D b 0 cs := ⟨hD, fun i v hi => by unfold World.cell?; rw [h, Nat.zero_add]; simpa using hi⟩
theorem of_calls (u : Un) (N : Nat) (b : OfB) (y : Us) (x : Lk) (m : MEnt) (w : World) (hn : u.n = N) (hN : N <= 64) (hA : u.In w) (hl : u.C.length <= 256) (hT : Tree N u.C) (hF : Fine N u.L) (hy : 0 <= y.link) (hx : u.L[y.link.toNat]? = some x)
  (hb : OfIn u N b w) (hm : w.heap[b.m]? = some m.o) (hme : ∀ e ∈ m.es, EntU (redU u.C N u.L) e) :
  Calls Try.prog 99 ⟨[ukV y, .pointer (some ⟨b.mc, 0, none⟩), .pointer (some ⟨b.u, 0, none⟩), .pointer (some ⟨b.t, 0, none⟩), .pointer (some ⟨b.g, 0, none⟩)]⟩ w fun e w' => ∃ m' : MEnt, (∀ e ∈ m'.es, EntU (redU u.C N u.L) e) /\ e = .returned (.agg ⟨edE (redU u.C N u.L y)⟩) /\ Same (fun k => k ≠ b.m) w w' /\ w'.heap[b.m]? = some m'.o := by
 have hlm := lt_of_heap hm
 have hbne : ∀ {k : Nat} {cs : List Value} {T : TypeId}, w.heap[k]? = some (.cells ⟨cs⟩ T (0, 0)) -> k < w.heap.size /\ k ≠ b.m := fun hk => ⟨lt_of_heap hk, fun e => by rw [e, hm] at hk; cases hk⟩
 have hsat : SatW w (fun k => k < w.heap.size /\ k ≠ b.m) noJ [(b.m, .map ⟨m.es⟩ m.ck)] w :=
  ⟨Same.refl _ _, fun _ h => h.1, by simp, fun p hp => by rw [List.mem_singleton.1 hp]; exact ⟨fun h => h.2 rfl, hm⟩, closed_noJ, trivial⟩
 have hAD : ∀ {A : Option Addr} {rows : List (List Value)}, Kin.At w A 4 rows -> (∀ r ∈ rows, r ≠ []) -> ∀ a, A = some a -> rows ≠ [] -> a.block < w.heap.size /\ a.block ≠ b.m := fun hat hr a ha hne => by
  obtain ⟨r, rows', rfl⟩ := List.exists_cons_of_ne_nil hne
  obtain ⟨b', o, h1, h2⟩ := hat 0 r rfl
  rw [ha] at h1
  cases h1
  obtain ⟨v, r', rfl⟩ := List.exists_cons_of_ne_nil (hr r List.mem_cons_self)
  have h3 := h2 0 v rfl
  refine ⟨lt_of_cell h3, fun e => ?_⟩
  unfold World.cell? at h3
  simp only at h3 e
  rw [e, hm] at h3
  cases h3
 have hlk : ∀ (l : List Lk), ∀ r ∈ l.map lkE, r ≠ [] := fun l r hr => by obtain ⟨z, _, rfl⟩ := List.mem_map.1 hr; simp [lkE]
 have hgp : ∀ (p q : Nat) (mem : List (Nat × Obj)) (W : World), p < N -> q < N -> SatW w (fun k => k < w.heap.size /\ k ≠ b.m) noJ mem W -> Calls Try.prog 98 ⟨[.int .i64 p, .int .i64 q, .pointer (some ⟨b.u, 0, none⟩), .pointer (some ⟨b.t, 0, none⟩)]⟩ W fun e w' => e = .returned (.int .i64 (gap u.C N p q)) /\ Below W.heap.size W w' := fun p q mem W hp hq hW =>
  gap_calls u N p q b.u b.t W hn hN ⟨hA.l.satD (fun a ha hne => hAD hA.l (hlk _) a ha hne) hW, hA.c.satD (fun a ha hne => hAD hA.c (hlk _) a ha hne) hW⟩ hl hT hp hq (hW.same.obj hb.ub (hbne hb.ub)) (hW.same.obj hb.t (hbne hb.t))
 have hBl := hA.l
 have hDl := hAD hA.l (hlk _)
 obtain ⟨em, eu, et, eg⟩ := hb
 have xm := extOf (D := fun k => k < w.heap.size /\ k ≠ b.m) em (hbne em)
 have xu := extOf (D := fun k => k < w.heap.size /\ k ≠ b.m) eu (hbne eu)
 have xt := extOf (D := fun k => k < w.heap.size /\ k ≠ b.m) et (hbne et)
 have xg := extOf (D := fun k => k < w.heap.size /\ k ≠ b.m) eg (hbne eg)
 have hin := List.mem_of_getElem? hx
 have hsw := side_wt hF hin y.lower
 have hred := redU_of (C := u.C) (N := N) hx
 obtain ⟨n, A, cap, L, B, cab, C⟩ := u
 simp only [Un.v] at *
 subst hn
 obtain ⟨p, q, hp, hq, e1, e2⟩ := side_in hF hin y.lower
 obtain ⟨r, r1, r2, -⟩ := hT.root_in hp
 obtain ⟨s, s1, s2, -⟩ := hT.root_in hq
 have hgb := gap_bd hT (p : Int) (q : Int)
 have hfx := hF x hin
 unfold Lk.Fine at hfx
 have hre : redS C N y.lower x = ⟨r, s, sideW y.lower x - gap C N p q⟩ := by
  unfold redS
  rw [e1, e2, r2, s2]
  simp only [Int.toNat_natCast]
 obtain ⟨b', o, rfl, hc⟩ := hBl y.link.toNat (lkE x) (by simp [hx])
 have he : Ext w (fun k => k < w.heap.size /\ k ≠ b.m) b' (o + y.link.toNat * 4) (lkE x) := ⟨hDl _ rfl (fun e => by rw [List.map_eq_nil_iff] at e; rw [e] at hx; simp at hx), hc⟩
 have hll := (List.getElem?_eq_some_iff.1 hx).1
 have xp : Ext w (fun k => k < w.heap.size /\ k ≠ b.m) b.t (0 + 64 + p) [.int .i64 (r : Int)] := by have h := xt.at (tree_root hp hN); rw [r2, show 0 + (64 + p) = 0 + 64 + p by omega] at h; exact h
 have xq : Ext w (fun k => k < w.heap.size /\ k ≠ b.m) b.t (0 + 64 + q) [.int .i64 (s : Int)] := by have h := xt.at (tree_root hq hN); rw [s2, show 0 + (64 + q) = 0 + 64 + q by omega] at h; exact h
 obtain ⟨yl, yb⟩ := y
 refine fEn Try.func99 rfl Try.ntmps99 rfl rfl hsat ?_
 cases hf : findB (hitU ⟨yl, yb⟩) m.es 0 with
 | some jv =>
  obtain ⟨j, v⟩ := jv
  have hv := hit_find hme _ 0 j v hf
  subst hv
  repeat (first|refine lVa rfl rfl (by first|exact vLd rfl (by repeat constructor) rfl (by rfl)|exact vL0 rfl (by assumption) rfl (by rfl)|fail) ?_|refine lNi ?_|refine cRg ?_|refine cSq ?_|refine xTh ?_|refine r_box rfl rfl rfl rfl (fun _ => ?_)|refine r_alloc rfl rfl rfl (by first|exact aggL|fail) (fun _ => ?_)|fail)
  refine lVa rfl rfl (v_mapGet (ok := true) (hitU ⟨yl, yb⟩) rfl rfl rfl rfl rfl rfl (by repeat constructor) (hit_run hme _) rfl hf) ?_
  repeat (first|refine lVa rfl rfl (by first|exact pEv rfl|exact vLd rfl (by repeat constructor) rfl (by rfl)|fail) ?_|refine lNi ?_|refine cRg ?_|refine cSq ?_|refine xTh ?_|refine r_alloc rfl rfl rfl (by first|exact aggL|fail) (fun _ => ?_)|refine rSt rfl rfl rfl rfl rfl rfl rfl (by repeat constructor) (by rfl) ?_|refine c_true rfl ?_|refine c_ret ?_|refine xTr ?_|fail)
  exact x_ret rfl rfl (by repeat constructor) rfl (fun W hW => ⟨m, hme, rfl, hW.same.monoLt fun k hk hne => ⟨hk, hne⟩, (hW.own (b.m, _) (by repeat constructor)).2⟩)
 | none =>
  have hnew : ∀ v, ∀ e ∈ m.es ++ [(⟨ukV ⟨yl, yb⟩, .agg ⟨edE (redU C N L ⟨yl, yb⟩)⟩, v⟩ : MapEntry)], EntU (redU C N L) e := fun v e he => by
   rcases List.mem_append.1 he with h | h
   ·exact hme e h
   ·rw [List.mem_singleton.1 h]; exact ⟨_, rfl, rfl⟩
  repeat (first|refine lVa rfl rfl (by first|exact vLd rfl (by repeat constructor) rfl (by rfl)|exact vL0 rfl (by assumption) rfl (by rfl)|fail) ?_|refine lNi ?_|refine cRg ?_|refine cSq ?_|refine xTh ?_|refine r_box rfl rfl rfl rfl (fun _ => ?_)|refine r_alloc rfl rfl rfl (by first|exact aggL|fail) (fun _ => ?_)|fail)
  refine lVa rfl rfl (v_mapGet (ok := true) (hitU ⟨yl, yb⟩) rfl rfl rfl rfl rfl rfl (by repeat constructor) (hit_run hme _) rfl hf) ?_
  repeat (first|refine lVa rfl rfl (by first|exact pEv rfl|exact vLd rfl (by repeat constructor) rfl (by rfl)|exact vL0 rfl (by assumption) rfl (by rfl)|exact vLe rfl (by assumption) rfl (by rfl)|exact v_index rfl rfl rfl rfl (by omega) (by omega) (by with_reducible first|exact idx8 _ _ _|fail)|fail) ?_|refine lNi ?_|refine cRg ?_|refine cSq ?_|refine xTh ?_|refine r_alloc rfl rfl rfl (by first|exact aggL|fail) (fun _ => ?_)|refine rSt rfl rfl rfl rfl rfl rfl rfl (by repeat constructor) (by rfl) ?_|refine c_false rfl ?_|refine cSk ?_|refine c_reads rfl (by decide +kernel) ?_|refine q_val rfl rfl (by first|exact pEv rfl|exact vLd rfl (by repeat constructor) rfl (by rfl)|fail) ?_|refine q_nil ?_|fail)
  cases yb with
  | false =>
   have f1 : x.fr = (p : Int) := e1
   have f2 : x.to = (q : Int) := e2
   have f3 : sideW false x = x.hi := rfl
   rw [f1, f2]
   simp only at f1 f2 f3 hre hred hsw
   rw [f3] at hre hsw
   have hval : edE (redU C N L ⟨yl, false⟩) = [.int .i64 (r : Int), .int .i64 (s : Int), .int .i64 (x.hi - gap C N p q)] := by rw [hred, hre]; rfl
   simp only [hval] at hnew ⊢
   repeat (first|refine cSq ?_|refine xTh ?_|refine c_false rfl ?_|refine cSk ?_|fail)
   refine c_new 0 1 [(12, .cal (.int .i64 (gap C N p q))), (15, .new 0), (16, .sto 0 0 3)] [(12, []), (15, [0]), (16, [0])] [] rfl (by decide +kernel) rfl ?_; repeat (first|refine e_val rfl rfl rfl rfl (by first|exact pEv rfl|exact vL0 rfl (by assumption) rfl (by rfl)|exact v_indexA rfl rfl rfl rfl (by omega) (by omega) (by with_reducible first|exact idx2 _ _|fail)|fail) ?_|fail)
   refine e_val rfl rfl rfl rfl (vL0 (T := tt151) rfl xg rfl rfl) ?_
   repeat (first|refine e_val rfl rfl rfl rfl (by first|exact pEv rfl|fail) ?_|fail)
   refine e_callv rfl rfl rfl rfl rfl rfl rfl (fun W hW => hgp p q _ W hp hq hW) ?_
   repeat (first|refine lVa rfl rfl (by first|exact vLd rfl (by repeat constructor) rfl (by rfl)|exact vL0 rfl (by assumption) rfl (by rfl)|fail) ?_|refine cRg ?_|refine cSq ?_|refine xTh ?_|refine e_val rfl rfl rfl rfl (by first|exact v_sub rfl rfl (by omega) (by omega)|exact v_build rfl rfl (by rfl)|fail) ?_|refine e_new rfl rfl rfl rfl (by first|exact n_alloc rfl (by first|exact aggL|fail)|fail) (fun _ => ?_)|refine e_store rfl rfl rfl rfl rfl rfl rfl rfl (by first|rfl|fail) rfl rfl (by first|(simp; done)|fail) (by first|exact splice_lit (by rfl)|fail) ?_|refine e_nil rfl ?_|fail)
   refine l_do rfl (d_mapNew (hitU ⟨yl, false⟩) rfl rfl rfl rfl rfl rfl (hit_run hme _) hf (by repeat constructor)) ?_
   repeat (first|refine lVa rfl rfl (by first|exact vLd rfl (by repeat constructor) rfl (by rfl)|fail) ?_|refine lNi ?_|refine cRg ?_|refine cSq ?_|refine xTh ?_|refine rSt rfl rfl rfl rfl rfl rfl rfl (by repeat constructor) (by rfl) ?_|refine c_ret ?_|fail)
   exact x_ret rfl rfl (by repeat constructor) rfl (fun W hW => ⟨⟨_, _⟩, hnew _, rfl, hW.same.monoLt fun k hk hne => ⟨hk, hne⟩, (hW.own (b.m, _) (by repeat constructor)).2⟩)
  | true =>
   have f1 : x.to = (p : Int) := e1
   have f2 : x.fr = (q : Int) := e2
   have f3 : sideW true x = - x.lo := rfl
   rw [f1, f2]
   simp only at f1 f2 f3 hre hred hsw
   rw [f3] at hre hsw
   have hval : edE (redU C N L ⟨yl, true⟩) = [.int .i64 (r : Int), .int .i64 (s : Int), .int .i64 (- x.lo - gap C N p q)] := by rw [hred, hre]; rfl
   simp only [hval] at hnew ⊢
   repeat (first|refine cSq ?_|refine xTh ?_|refine c_true rfl ?_|refine c_reads rfl (by decide +kernel) ?_|refine q_val rfl rfl (by first|exact v_neg rfl (by omega) (by omega)|exact pEv rfl|exact vLd rfl (by repeat constructor) rfl (by rfl)|fail) ?_|refine q_nil ?_|fail)
   refine c_new 0 1 [(12, .cal (.int .i64 (gap C N p q))), (15, .new 0), (16, .sto 0 0 3)] [(12, []), (15, [0]), (16, [0])] [] rfl (by decide +kernel) rfl ?_; repeat (first|refine e_val rfl rfl rfl rfl (by first|exact pEv rfl|exact vL0 rfl (by assumption) rfl (by rfl)|exact v_indexA rfl rfl rfl rfl (by omega) (by omega) (by with_reducible first|exact idx2 _ _|fail)|fail) ?_|fail)
   refine e_val rfl rfl rfl rfl (vL0 (T := tt151) rfl xg rfl rfl) ?_
   repeat (first|refine e_val rfl rfl rfl rfl (by first|exact pEv rfl|fail) ?_|fail)
   refine e_callv rfl rfl rfl rfl rfl rfl rfl (fun W hW => hgp p q _ W hp hq hW) ?_
   repeat (first|refine lVa rfl rfl (by first|exact vLd rfl (by repeat constructor) rfl (by rfl)|exact vL0 rfl (by assumption) rfl (by rfl)|fail) ?_|refine cRg ?_|refine cSq ?_|refine xTh ?_|refine e_val rfl rfl rfl rfl (by first|exact v_sub rfl rfl (by omega) (by omega)|exact v_build rfl rfl (by rfl)|fail) ?_|refine e_new rfl rfl rfl rfl (by first|exact n_alloc rfl (by first|exact aggL|fail)|fail) (fun _ => ?_)|refine e_store rfl rfl rfl rfl rfl rfl rfl rfl (by first|rfl|fail) rfl rfl (by first|(simp; done)|fail) (by first|exact splice_lit (by rfl)|fail) ?_|refine e_nil rfl ?_|fail)
   refine l_do rfl (d_mapNew (hitU ⟨yl, true⟩) rfl rfl rfl rfl rfl rfl (hit_run hme _) hf (by repeat constructor)) ?_
   repeat (first|refine lVa rfl rfl (by first|exact vLd rfl (by repeat constructor) rfl (by rfl)|fail) ?_|refine lNi ?_|refine cRg ?_|refine cSq ?_|refine xTh ?_|refine rSt rfl rfl rfl rfl rfl rfl rfl (by repeat constructor) (by rfl) ?_|refine c_ret ?_|fail)
   exact x_ret rfl rfl (by repeat constructor) rfl (fun W hW => ⟨⟨_, _⟩, hnew _, rfl, hW.same.monoLt fun k hk hne => ⟨hk, hne⟩, (hW.own (b.m, _) (by repeat constructor)).2⟩)
end R23
end Go.Proofs

namespace Go.Proofs
open Go.RowKit Go.Kin Go.Kin.St Go.Kin.Ct
open R22
namespace R23
/-! ## Uses -/
theorem uses_calls (u : Un) (w : World) :
  Calls Try.prog 87 ⟨[.agg ⟨u.v⟩]⟩ w fun e w' => ∃ b, e = .returned (.func (.func 100) ⟨[]⟩ ⟨[.pointer (some ⟨b, 0, none⟩)]⟩) /\ Below w.heap.size w w' /\ w.heap.size <= b /\ w'.heap[b]? = some (.cells ⟨u.v⟩ 24 (0, 0)) := by
 obtain ⟨n, A, cap, L, B, cab, C⟩ := u
 simp only [Un.v]
 refine fEn Try.func87 rfl Try.ntmps87 rfl rfl (sWn w) ?_
 repeat (first|refine lVa rfl rfl (by first|exact pEv rfl|fail) ?_|refine lNi ?_|refine cRg ?_|refine cSq ?_|refine xTh ?_|refine r_box rfl rfl rfl rfl (fun _ => ?_)|refine c_ret ?_|fail)
 refine x_ret rfl rfl (by repeat constructor) rfl (fun W hW => ?_)
 have h := hW.own _ (by repeat constructor)
 exact ⟨_, rfl, hW.below, Nat.le_of_not_lt h.1, h.2⟩
def usL (m : Nat) : List Us := (List.range (2 * m)).map useOf
theorem usL_len (m : Nat) : (usL m).length = 2 * m := by unfold usL; simp
theorem usL_get {m k : Nat} (h : k < 2 * m) : (usL m)[k]? = some (useOf k) := by unfold usL; rw [List.getElem?_map, List.getElem?_range h]; rfl
theorem useOf_even (k : Nat) : useOf (2 * k) = ⟨k, false⟩ := by unfold useOf; rw [show 2 * k / 2 = k by omega, decide_eq_false (by omega)]
theorem useOf_odd (k : Nat) : useOf (2 * k + 1) = ⟨k, true⟩ := by unfold useOf; rw [show (2 * k + 1) / 2 = k by omega, decide_eq_true (by omega)]
def usA (u : Us) : List Value := [.agg ⟨usE u⟩]
theorem uses_it (R : Nat -> Prop) (b : Nat) (u : Un) (W : World) (hl : u.L.length <= 1000) (hbox : W.heap[b]? = some (.cells ⟨u.v⟩ 24 (0, 0))) (hR : ∀ k, R k -> k < W.heap.size) (hRb : R b) :
  It Try.prog 100 [.pointer (some ⟨b, 0, none⟩)] usA (usL u.L.length) R W := by
 obtain ⟨n, A, cap, L, B, cab, C⟩ := u
 simp only [Un.v] at hl hbox ⊢
 intro lp J Jx cJ cJx hy h0
 have hb : Ext W R b 0 [.int .i64 n, .slice A L.length cap, .slice B C.length cab] := extOf hbox hRb
 have hs : SatW W R (J 0) [] W := ⟨Same.refl _ _, hR, List.nodup_nil, fun p hp => (by cases hp), cJ 0, cJ 0 _ _ _ _ h0 (Same.refl _ _) fun b hb => (by cases hb)⟩
 refine fEn Try.func100 rfl Try.ntmps100 rfl rfl hs ?_
 repeat (first|refine lVa rfl rfl (by first|exact pEv rfl|exact vLe rfl (by assumption) rfl (by rfl)|fail) ?_|refine lNi ?_|refine cRg ?_|refine cSq ?_|refine xTh ?_|refine cBl ?_|fail)
 refine c_loopD (ι := Nat) (fun k => k <= L.length) (fun _ => []) (fun k => J (2 * k)) (fun k => [(0, .func (.yield lp) ⟨[]⟩ ⟨[]⟩), (6, .int .i64 L.length), (7, .int .i64 k)]) (fun _ => []) (fun k => L.length - k) 0 (by omega) rfl rfl (by repeat (first|exact .nil|refine .cons rfl (by first|rfl|(congr 1; done)|exact congrArg _ (by omega)|(simp; done)) ?_)) (by repeat (first|exact .nil|refine .keep (by first|rfl|assumption) ?_|refine .drop ?_|exact MSub.refl _)) ?_
 intro k hk
 by_cases hlt : k < L.length
 ·have hlen := usL_len L.length
  have e1 : (usL L.length)[2 * k]'(by omega) = ⟨k, false⟩ := by
   have h := (List.getElem?_eq_some_iff.1 (usL_get (m := L.length) (k := 2 * k) (by omega))).2
   rw [h, useOf_even]
  have e2 : (usL L.length)[2 * k + 1]'(by omega) = ⟨k, true⟩ := by
   have h := (List.getElem?_eq_some_iff.1 (usL_get (m := L.length) (k := 2 * k + 1) (by omega))).2
   rw [h, useOf_odd]
  repeat (first|refine lVa rfl rfl (by first|exact pEv rfl|exact v_build rfl rfl (by rfl)|fail) ?_|refine lNi ?_|refine cRg ?_|refine cSq ?_|refine xTh ?_|refine c_dec_t rfl (by first|omega|fail) ?_|refine cBl ?_|refine cSk ?_|fail)
  refine l_yield rfl rfl rfl rfl rfl (cJ (2 * k + 1)) (cJx (2 * k)) (fun S A hj hS => by have := hy (2 * k) (by omega) S A hj hS; rw [e1] at this; exact this) ?_ (fun W0 => ?_)
  ·repeat (first|refine lVa rfl rfl (by first|exact pEv rfl|exact v_build rfl rfl (by rfl)|fail) ?_|fail)
   refine l_yield rfl rfl rfl rfl rfl (cJ (2 * k + 1 + 1)) (cJx (2 * k + 1)) (fun S A hj hS => by have := hy (2 * k + 1) (by omega) S A hj hS; rw [e2] at this; exact this) ?_ (fun W0 => ?_)
   ·repeat (first|refine lVa rfl rfl (by first|exact v_add rfl rfl (by omega) (by omega)|exact pEv rfl|fail) ?_|refine lNi ?_|refine cRg ?_|refine xTh ?_|refine c_false rfl ?_|refine cSk ?_|refine x_block ?_|fail)
    exact x_backD (k + 1) (by omega) (by omega) rfl rfl (by repeat (first|exact .nil|refine .cons rfl (by first|rfl|(congr 1; done)|exact congrArg _ (by omega)|(simp; done)) ?_)) (by repeat (first|exact .nil|refine .keep (by first|rfl|assumption) ?_|refine .drop ?_|exact MSub.refl _))
   ·repeat (first|refine lVa rfl rfl (by first|exact pEv rfl|fail) ?_|refine lNi ?_|refine xTh ?_|refine c_true rfl ?_|refine c_ret ?_|refine xTr ?_|refine xBr ?_|fail)
    exact x_ret rfl rfl (by repeat constructor) rfl (fun W hW => ⟨⟨_, rfl⟩, .inr ⟨2 * k + 1, by omega, _, hW.word⟩⟩)
  ·repeat (first|refine lVa rfl rfl (by first|exact pEv rfl|exact v_build rfl rfl (by rfl)|fail) ?_|refine lNi ?_|refine xTh ?_|refine l_skip rfl rfl ?_|refine c_true rfl ?_|refine c_ret ?_|refine xTr ?_|refine xBr ?_|fail)
   exact x_ret rfl rfl (by repeat constructor) rfl (fun W hW => ⟨⟨_, rfl⟩, .inr ⟨2 * k, by omega, _, hW.word⟩⟩)
 ·have hkl : k = L.length := by omega
  subst hkl
  have hlen := usL_len L.length
  repeat (first|refine lVa rfl rfl (by first|exact pEv rfl|fail) ?_|refine lNi ?_|refine cRg ?_|refine cSq ?_|refine xTh ?_|refine c_dec_f rfl (by first|omega|fail) ?_|refine c_exit ?_|refine xTe ?_|refine xBs ?_|fail)
  exact x_end rfl rfl (by repeat constructor) rfl (fun W hW => ⟨⟨_, rfl⟩, .inl ⟨_, by rw [hlen]; exact hW.word⟩⟩)
/-! ## The closure -/
theorem steps_calls' (u : Un) (N : Nat) (w : World) :
  Calls Try.prog 86 ⟨[.agg ⟨u.v⟩, .agg ⟨theTree u.C N⟩]⟩ w fun e w' => ∃ b : OfB, e = .returned b.v /\ Below w.heap.size w w' /\ (([(b.g, Obj.cells ⟨[.func (.func 98) ⟨[]⟩ ⟨[.pointer (some ⟨b.u, 0, none⟩), .pointer (some ⟨b.t, 0, none⟩)]⟩]⟩ 151 (0, 0)), (b.mc, .cells ⟨[.map (some b.m)]⟩ 157 (0, 0)), (b.m, .map ⟨[]⟩ 0), (b.t, .cells ⟨theTree u.C N⟩ 111 (0, 0)), (b.u, .cells ⟨u.v⟩ 24 (0, 0))] : List (Nat × Obj)).map (·.1)).Nodup /\
   ∀ p ∈ ([(b.g, Obj.cells ⟨[.func (.func 98) ⟨[]⟩ ⟨[.pointer (some ⟨b.u, 0, none⟩), .pointer (some ⟨b.t, 0, none⟩)]⟩]⟩ 151 (0, 0)), (b.mc, .cells ⟨[.map (some b.m)]⟩ 157 (0, 0)), (b.m, .map ⟨[]⟩ 0), (b.t, .cells ⟨theTree u.C N⟩ 111 (0, 0)), (b.u, .cells ⟨u.v⟩ 24 (0, 0))] : List (Nat × Obj)), w.heap.size <= p.1 /\ w'.heap[p.1]? = some p.2 := by
 obtain ⟨n, A, cap, L, B, cab, C⟩ := u
 simp only [Un.v]
 unfold theTree
 refine fEn Try.func86 rfl Try.ntmps86 rfl rfl (sWn w) ?_
 repeat (first|refine r_alloc (T := tt151) rfl rfl rfl rfl (fun _ => ?_)|refine rSt (T := tt151) rfl rfl rfl rfl rfl rfl rfl (by repeat constructor) (by rfl) ?_|refine lVa rfl rfl (by first|exact pEv rfl|fail) ?_|refine lNi ?_|refine cRg ?_|refine cSq ?_|refine xTh ?_|refine r_box rfl rfl rfl rfl (fun _ => ?_)|refine r_makeMap rfl rfl (fun _ => ?_)|refine r_alloc rfl rfl rfl (by first|exact aggL|fail) (fun _ => ?_)|refine rSt rfl rfl rfl rfl rfl rfl rfl (by repeat constructor) (by rfl) ?_|refine c_ret ?_|fail)
 rename_i bu bt bm bmc bg
 exact x_ret rfl rfl (by repeat constructor) rfl (fun W hW => ⟨⟨bm, bmc, bu, bt, bg⟩, rfl, hW.below, hW.nodup, fun p hp => ⟨Nat.le_of_not_lt (hW.own p hp).1, (hW.own p hp).2⟩⟩)
end R23
end Go.Proofs

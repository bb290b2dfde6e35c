/- Games on networks: whether all has been kept, as the specification says it. -/
import Derived.Test.YtcodoembnjemkaaGreatGenCell
import Derived.Test.YtcodoembnjemkaaGreatSgQi
import Derived.Test.YtcodoembnjemkaaGreatSgWn
set_option maxRecDepth 100000
set_option maxHeartbeats 400000000
set_option linter.unusedSectionVars false
set_option linter.unusedVariables false
set_option linter.unusedSimpArgs false
namespace Go.Proofs
open Go.RowKit Go.Kin Go.Kin.St
namespace R22
theorem Met_calls (n : Int) (A T : Option Addr) (cap capT : Nat) (l : List Lk) (t : List Int) (w : World) (hl : l.length <= 1000) (ht : t.length <= 1000) (hA : At w A 4 (l.map lkE)) (hT : At w T 1 (t.map inE))
  (hF : Fine n l) (hn : (t.length : Int) = n) (hr : Tm t) :
  Calls Tryz.prog 87 ⟨[.slice A l.length cap, .slice T t.length capT]⟩ w fun e w' => e = .returned (.bool (metB l t)) /\ Below w.heap.size w w' := by
 refine fEn Tryz.func87 rfl Tryz.ntmps87 rfl rfl (sWn w) ?_
 repeat (first|refine lVa rfl rfl (by first|exact pEv rfl|fail) ?_|refine lNi ?_|refine cRg ?_|refine cSq ?_|refine xTh ?_|refine cBl ?_|fail)
 refine c_loop (ι := Nat) (fun k => k <= l.length /\ ∀ x ∈ l.take k, lkB t x = true) (fun k => [(0, .slice A l.length cap), (1, .slice T t.length capT), (5, .int .i64 k)]) (fun _ => []) (fun k => l.length - k) 0 ⟨by omega, by simp⟩ (by repeat (first|exact .nil|refine .cons rfl (by first|rfl|(congr 1; done)|exact congrArg _ (by omega)|(simp; done)) ?_)) (by repeat (first|exact .nil|refine .keep (by first|rfl|assumption) ?_|refine .drop ?_|exact MSub.refl _)) ?_
 rintro k ⟨hk, hM⟩
 by_cases hlt : k < l.length
 ·obtain ⟨x, hx⟩ : ∃ x, l[k]? = some x := ⟨_, List.getElem?_eq_getElem hlt⟩
  obtain ⟨b, o, rfl, hc⟩ := hA k (lkE x) (by simp [hx])
  have he := ext_of hc
  have hin : x ∈ l := List.mem_of_getElem? hx
  have hf := hF x hin
  unfold Lk.Fine at hf
  obtain ⟨b1, o1, rfl, e1⟩ := at_int hT (i := x.fr) (by omega) (by omega)
  obtain ⟨b2, o2, h2, e2⟩ := at_int hT (i := x.to) (by omega) (by omega)
  cases h2
  have r1 := tf_in hr x.fr.toNat
  have r2 := tf_in hr x.to.toNat
  repeat' (first|refine lVa rfl rfl (by first|exact v_add rfl rfl (by omega) (by omega)|exact pEv rfl|exact vLe rfl (by assumption) rfl (by rfl)|exact v_index rfl rfl rfl rfl (by omega) (by omega) (by with_reducible first|exact idx4 _ _ _|fail)|fail) ?_|refine lNi ?_|refine cRg ?_|refine cSq ?_|refine xTh ?_|refine l_skip rfl rfl ?_|refine c_true rfl ?_|refine c_dec_t rfl (by first|omega|fail) ?_|refine cBl ?_|refine cSk ?_|refine c_ret ?_|refine xTr ?_|refine x_block ?_|refine xBr ?_|refine c_reads rfl (by decide +kernel) ?_|refine q_val rfl rfl (by first|exact v_sub rfl rfl (by omega) (by omega)|exact pEv rfl|exact vL0 rfl (by assumption) rfl (by rfl)|exact vLe rfl (by assumption) rfl (by rfl)|exact v_index rfl rfl rfl rfl (by omega) (by omega) (by with_reducible first|exact idx4 _ _ _|exact idx6 _ _|fail)|fail) ?_|refine q_nil ?_|refine l_dec rfl rfl rfl rfl rfl (fun _ => ?_) (fun _ => ?_)|refine c_dec rfl (fun _ => ?_) (fun _ => ?_)|fail)
  all_goals first
   | (refine x_ret rfl rfl (by repeat constructor) rfl (fun W hW => ⟨?_, hW.below⟩)
      have hno : metB l t = false := by
       rw [Bool.eq_false_iff]
       intro h
       have h3 := List.all_eq_true.1 h x hin
       simp only [lkB, decide_eq_true_eq] at h3
       omega
      rw [hno])
   | (refine x_back (k + 1) ⟨hlt, ?_⟩ (by omega) (by repeat (first|exact .nil|refine .cons rfl (by first|rfl|(congr 1; done)|exact congrArg _ (by omega)|(simp; done)) ?_)) (by repeat (first|exact .nil|refine .keep (by first|rfl|assumption) ?_|refine .drop ?_|exact MSub.refl _))
      intro y hy
      rw [List.take_add_one, hx] at hy
      rcases List.mem_append.1 hy with h | h
      ·exact hM y h
      ·simp only [Option.toList_some, List.mem_singleton] at h
       rw [h]; simp only [lkB, decide_eq_true_eq]; omega)
 ·have hkl : k = l.length := by omega
  subst hkl
  rw [List.take_length] at hM
  repeat' (first|refine lVa rfl rfl (by first|exact pEv rfl|fail) ?_|refine lNi ?_|refine cRg ?_|refine cSq ?_|refine xTh ?_|refine c_dec_f rfl (by first|omega|fail) ?_|refine c_ret ?_|refine c_exit ?_|refine xTe ?_|refine xBs ?_|fail)
  refine x_ret rfl rfl (by repeat constructor) rfl (fun W hW => ⟨?_, hW.below⟩)
  have hyes : metB l t = true := List.all_eq_true.2 hM
  rw [hyes]
end R22
open Go.RowKit Go.Kin Go.Kin.St Go.Kin.Ct Go.Kin.Sg
open R22 (chk chk_fine tmB tmB_iff metB lkB tf)
namespace R24
theorem kp_met {G : Gm} {l : List Int} (hc : chk G.n G.L = 0) (hl : l.length = G.n) (hb : ∀ x ∈ l, 0 <= x /\ x <= 1000) (hk : ∀ q, q < l.length -> kn l q ≠ 0) : metB G.L (lessOne l) = kpB G l := by
 obtain ⟨h1, h2⟩ := R22.mt_ok hc (by rw [lessOne_len, hl]) ((tm_less hb).2 hk)
 have := kept_eq hc hl hb
 rw [h1, h2, decide_eq_true rfl, Bool.and_true] at this
 exact this
theorem kp_no {G : Gm} {l : List Int} {q : Nat} (hq : q < G.n) (h : kn l q = 0) : kpB G l = false := by
 unfold kpB
 exact @decide_eq_false _ (Classical.propDecidable _) (fun g => g.1 q hq h)
theorem kept59_calls (n : Nat) (A : Option Addr) (cap : Nat) (L : List Lk) (B : Option Addr) (cab : Nat) (C : List Lk) (T : Nat) (K : Option Addr) (ck : Nat) (l : List Int) (w : World) (hA : (⟨n, A, cap, L, B, cab, C⟩ : R23.Un).In w) (hK : At w K 1 (l.map inE))
  (hln : l.length = n) (hn : n <= 1000) (hl : L.length <= 1000) (hb : ∀ x ∈ l, 0 <= x /\ x <= 1000) (hck : chk n L = 0) :
  Calls Tryz.prog 59 ⟨[.agg ⟨[.int .i64 n, .slice A L.length cap, .slice B C.length cab]⟩, .slice K l.length ck]⟩ w fun e w' => e = .returned (.bool (kpB ⟨n, T, L, C⟩ l)) /\ Below w.heap.size w w' := by
 have hAl := hA.l
 simp only at hAl
 refine fEn Tryz.func59 rfl Tryz.ntmps59 rfl rfl (sWn w) ?_
 repeat (first|refine lVa rfl rfl (by first|exact pEv rfl|fail) ?_|refine lNi ?_|refine cRg ?_|refine cSq ?_|refine xTh ?_|refine r_box rfl rfl rfl rfl (fun _ => ?_)|refine r_buildSlice rfl rfl rfl rfl rfl rfl (by rfl) (fun _ => ?_)|refine cBl ?_|fail)
 rename_i b2 b5
 refine c_loop (ι := LS) (fun s => s.i <= n /\ Grow 1 (l.take s.i).length (flI (lessOne (l.take s.i))) s.c s.r /\ ∀ q, q < s.i -> kn l q ≠ 0) (fun s => [(1, .slice K l.length ck), (2, .pointer (some ⟨b2, 0, none⟩)), (5, .slice (some ⟨s.b, 0, none⟩) (l.take s.i).length s.c), (6, .int .i64 s.i)])
  (fun s => [(s.b, .cells ⟨flI (lessOne (l.take s.i)) ++ s.r⟩ 3 (0, 0)), (b2, .cells ⟨[.int .i64 n, .slice A L.length cap, .slice B C.length cab]⟩ 24 (0, 0))]) (fun s => n - s.i) ⟨0, b5, 0, []⟩ ⟨Nat.zero_le _, ⟨rfl, rfl, Nat.le_refl _, Nat.zero_le _⟩, fun q hq => absurd hq (Nat.not_lt_zero _)⟩ (by repeat (first|exact .nil|refine .cons rfl (by first|rfl|(congr 1; done)|exact congrArg _ (by omega)|(simp; done)) ?_)) (by repeat (first|exact .nil|refine .keep (by first|rfl|assumption) ?_|refine .drop ?_|exact MSub.refl _)) ?_
 rintro ⟨i, bb, cc, r⟩ ⟨hi, hgr, hnz⟩
 simp only at hi hgr hnz ⊢
 have hti : (l.take i).length = i := by rw [List.length_take]; omega
 rw [hti] at hgr ⊢
 by_cases hlt : i < n
 ·have hx := kn_at (l := l) (q := i) (by omega)
  have hmem : kn l i ∈ l := List.mem_of_getElem? hx
  have hbx := hb _ hmem
  obtain ⟨bK, oK, hKe, hk1⟩ := hK i (inE (kn l i)) (by rw [List.getElem?_map, hx]; rfl)
  have eK := ext_of hk1
  rw [Nat.mul_one] at eK
  subst hKe
  by_cases hz : kn l i = 0
  ·have hno := kp_no (G := ⟨n, T, L, C⟩) hlt hz
   rw [hz] at eK
   repeat (first|refine lVa rfl rfl (by first|exact pEv rfl|exact vLd rfl (by repeat constructor) rfl (by rfl)|exact vL0 rfl (by assumption) rfl (by rfl)|exact v_index rfl rfl rfl rfl (by omega) (by omega) (by with_reducible first|exact idx2 _ _|fail)|fail) ?_|refine lNi ?_|refine cRg ?_|refine cSq ?_|refine xTh ?_|refine c_true rfl ?_|refine c_dec_t rfl (by first|omega|fail) ?_|refine cBl ?_|refine cSk ?_|refine c_ret ?_|refine xTr ?_|refine xBr ?_|fail)
   exact x_ret rfl rfl (by repeat constructor) rfl (fun W hW => ⟨by rw [hno], hW.below⟩)
  ·obtain ⟨v, hv⟩ : ∃ v, kn l i = v := ⟨_, rfl⟩
   have hsn := lessOne_snoc (l := l) (i := i) (by omega)
   rw [hv] at eK hz hbx hsn
   have hfl2 : flI (lessOne (l.take i)) ++ [Value.int .i64 (v - 1)] = flI (lessOne (l.take (i + 1))) := by
    rw [hsn, flI_eq, flI_eq, List.map_append]; rfl
   have hl2 : (l.take (i + 1)).length = i + 1 := by rw [List.length_take]; omega
   repeat (first|refine lVa rfl rfl (by first|exact v_sub rfl rfl (by omega) (by omega)|exact pEv rfl|exact vLd rfl (by repeat constructor) rfl (by rfl)|exact vL0 rfl (by assumption) rfl (by rfl)|exact v_index rfl rfl rfl rfl (by omega) (by omega) (by with_reducible first|exact idx2 _ _|fail)|fail) ?_|refine lNi ?_|refine cRg ?_|refine cSq ?_|refine xTh ?_|refine r_buildSlice rfl rfl rfl rfl rfl rfl (by rfl) (fun _ => ?_)|refine c_dec_t rfl (by first|omega|fail) ?_|refine c_dec_f rfl (by first|omega|fail) ?_|refine cBl ?_|refine cSk ?_|fail)
   refine r_append (xs := flI (lessOne (l.take i))) (rest := r) (n := i) (cap := cc) (ys := [.int .i64 (v - 1)]) rfl rfl rfl rfl rfl rfl (news_own (by repeat constructor)) (Rem.tail Rem.head) hgr rfl rfl rfl (by omega) (by unfold maxLen; omega) (fun b' c' r' hg => ?_)
   rw [hfl2] at hg ⊢
   repeat (first|refine lVa rfl rfl (by first|exact v_add rfl rfl (by omega) (by omega)|exact pEv rfl|fail) ?_|refine lNi ?_|refine cRg ?_|refine xTh ?_|refine x_block ?_|fail)
   refine x_back ⟨i + 1, b', c', r'⟩ ⟨hlt, by simp only; rw [hl2]; exact hg, fun q hq => ?_⟩ (by simp only; omega) (by simp only [hl2]; exact (by repeat (first|exact .nil|refine .cons rfl (by first|rfl|(congr 1; done)|exact congrArg _ (by omega)|(simp; done)) ?_))) (by repeat (first|exact .nil|refine .keep (by first|rfl|assumption) ?_|refine .drop ?_|exact MSub.refl _))
   change q < i + 1 at hq
   by_cases h : q < i
   ·exact hnz q h
   ·have : q = i := by omega
    rw [this, hv]; exact hz
 ·have hie : i = n := by omega
  subst hie
  have htk : l.take i = l := List.take_of_length_le (by omega)
  rw [htk] at hgr ⊢
  have hll : (lessOne l).length = i := by rw [lessOne_len, hln]
  repeat (first|refine lVa rfl rfl (by first|exact pEv rfl|exact vLd rfl (by repeat constructor) rfl (by rfl)|fail) ?_|refine lNi ?_|refine cRg ?_|refine cSq ?_|refine xTh ?_|refine c_dec_f rfl (by first|omega|fail) ?_|refine c_exit ?_|refine xTe ?_|refine xBs ?_|fail)
  refine r_call (v := .bool (kpB ⟨i, T, L, C⟩ l)) rfl rfl rfl (fun W hW => ?_) ?_
  ·have := R22.Met_calls (i : Int) A (some ⟨bb, 0, none⟩) cap cc L (lessOne l) W hl (by omega) (hAl.sat hW) (at_flI hW (by repeat constructor)) (chk_fine hck).2.2.2 (by rw [hll]) ((tmB_iff _).1 ((tm_less hb).2 (fun q hq => hnz q (by omega))))
   rw [kp_met (G := ⟨i, T, L, C⟩) hck hln hb (fun q hq => hnz q (by omega)), hll] at this
   exact this
  repeat (first|refine lVa rfl rfl (by first|exact pEv rfl|fail) ?_|refine lNi ?_|refine xTh ?_|refine c_ret ?_|fail)
  exact x_ret rfl rfl (by repeat constructor) rfl (fun W hW => ⟨rfl, hW.below⟩)
end R24
end Go.Proofs

set_option maxRecDepth 100000
set_option maxHeartbeats 400000000
namespace Go.Proofs
open Go.RowKit Go.Kin Go.Kin.St Go.Kin.Ct Go.Kin.Sg
namespace R24
theorem filt_succ {p : Nat -> Bool} {i : Nat} : (List.range (i + 1)).filter p = (List.range i).filter p ++ (if p i then [i] else []) := by
 rw [List.range_succ, List.filter_append]
 congr 1
 cases h : p i <;> simp [h]
theorem filt_len {p : Nat -> Bool} {i : Nat} : ((List.range i).filter p).length <= i := Nat.le_trans (List.length_filter_le _ _) (by rw [List.length_range]; exact Nat.le_refl _)
def mayI (C : List Lk) (k : Nat) (l : List Int) (i : Nat) : List Nat := (List.range i).filter (mayF C k (kn l))
def dueI (C : List Lk) (k : Nat) (l : List Int) (i : Nat) : List Nat := (List.range i).filter (dueF C k (kn l))
theorem castL_app {a b : List Nat} : castL (a ++ b) = castL a ++ castL b := by unfold castL; rw [List.map_append]
theorem flI_app {a b : List Int} : flI (a ++ b) = flI a ++ flI b := by rw [flI_eq, flI_eq, flI_eq, List.map_append]
structure LS2 where
 i : Nat
 b : Nat
 c : Nat
 r : List Value
 b2 : Nat
 c2 : Nat
 r2 : List Value
/-- two lists in blocks of their own -/
structure My where
 b : Nat
 c : Nat
 r : List Value
 b2 : Nat
 c2 : Nat
 r2 : List Value
def My.OK (m d : List Nat) (i : My) : Prop := Grow 1 m.length (flI (castL m)) i.c i.r /\ Grow 1 d.length (flI (castL d)) i.c2 i.r2
def MyQ (m d : List Nat) (w : World) (e : Ending) (w' : World) : Prop := ∃ i : { i : My // i.OK m d }, e = .returned (.tuple ⟨[.slice (some ⟨i.1.b, 0, none⟩) m.length i.1.c, .slice (some ⟨i.1.b2, 0, none⟩) d.length i.1.c2]⟩) /\ Below w.heap.size w w' /\
 w.heap.size <= i.1.b /\ w'.heap[i.1.b]? = some (.cells ⟨flI (castL m) ++ i.1.r⟩ 3 (0, 0)) /\ w.heap.size <= i.1.b2 /\ w'.heap[i.1.b2]? = some (.cells ⟨flI (castL d) ++ i.1.r2⟩ 3 (0, 0)) /\ i.1.b2 ≠ i.1.b
theorem may60_calls (n : Nat) (A : Option Addr) (cap : Nat) (L : List Lk) (B : Option Addr) (cab : Nat) (C : List Lk) (T k : Nat) (K : Option Addr) (ck : Nat) (l : List Int) (w : World) (hA : (⟨n, A, cap, L, B, cab, C⟩ : R23.Un).In w) (hK : At w K 1 (l.map inE))
  (hln : l.length = n) (hn : n <= 1000) (hk : k <= 900) (hc : C.length <= 1000) (hC : ∀ x ∈ C, 0 <= x.fr /\ x.fr < n) (hbd : ∀ q, 0 <= kn l q /\ kn l q <= k) :
  Calls Tryz.prog 60 ⟨[.agg ⟨[.int .i64 n, .slice A L.length cap, .slice B C.length cab]⟩, .int .i64 k, .slice K l.length ck]⟩ w (MyQ (may ⟨n, T, L, C⟩ k l) (Sg.due ⟨n, T, L, C⟩ k l) w) := by
 have hwt : ∀ (q : Nat) (mem : List (Nat × Obj)) (W : World), q < n -> SatW w (base w) noJ mem W -> Calls Tryz.prog 88 ⟨[.agg ⟨[.int .i64 n, .slice A L.length cap, .slice B C.length cab]⟩, .int .i64 k, .slice K l.length ck, .int .i64 q]⟩ W fun e w' => e = .returned (.tuple ⟨wtV C k (kn l) q⟩) /\ Below W.heap.size W w' := fun q mem W hq hW =>
  wait64_calls n A cap L B cab C k K ck l q W (hA.sat hW) (hK.sat hW) hln hq hn (by omega) hc hC fun q => by have := hbd q; omega
 refine fEn Tryz.func60 rfl Tryz.ntmps60 rfl rfl (sWn w) ?_
 repeat (first|refine lVa rfl rfl (by first|exact pEv rfl|fail) ?_|refine lNi ?_|refine cRg ?_|refine cSq ?_|refine xTh ?_|refine r_box rfl rfl rfl rfl (fun _ => ?_)|refine r_buildSlice rfl rfl rfl rfl rfl rfl (by rfl) (fun _ => ?_)|refine cBl ?_|fail)
 rename_i b3 b8 b9
 refine c_loop (ι := LS2) (fun s => s.i <= n /\ Grow 1 (mayI C k l s.i).length (flI (castL (mayI C k l s.i))) s.c s.r /\ Grow 1 (dueI C k l s.i).length (flI (castL (dueI C k l s.i))) s.c2 s.r2) (fun s => [(1, .int .i64 k), (2, .slice K l.length ck), (3, .pointer (some ⟨b3, 0, none⟩)), (8, .slice (some ⟨s.b, 0, none⟩) (mayI C k l s.i).length s.c), (9, .slice (some ⟨s.b2, 0, none⟩) (dueI C k l s.i).length s.c2), (10, .int .i64 s.i)])
  (fun s => [(s.b2, .cells ⟨flI (castL (dueI C k l s.i)) ++ s.r2⟩ 3 (0, 0)), (s.b, .cells ⟨flI (castL (mayI C k l s.i)) ++ s.r⟩ 3 (0, 0)), (b3, .cells ⟨[.int .i64 n, .slice A L.length cap, .slice B C.length cab]⟩ 24 (0, 0))]) (fun s => n - s.i) ⟨0, b8, 0, [], b9, 0, []⟩ ⟨Nat.zero_le _, ⟨rfl, rfl, Nat.le_refl _, Nat.zero_le _⟩, ⟨rfl, rfl, Nat.le_refl _, Nat.zero_le _⟩⟩ (by repeat (first|exact .nil|refine .cons rfl (by first|rfl|(congr 1; done)|exact congrArg _ (by omega)|(simp; done)) ?_)) (by repeat (first|exact .nil|refine .keep (by first|rfl|assumption) ?_|refine .drop ?_|exact MSub.refl _)) ?_
 rintro ⟨i, bb, cc, r, bb2, cc2, r2⟩ ⟨hi, hgr, hgr2⟩
 simp only at hi hgr hgr2 ⊢
 have hml : (mayI C k l i).length <= i := filt_len
 have hdl : (dueI C k l i).length <= i := filt_len
 by_cases hlt : i < n
 ·have hsm : mayI C k l (i + 1) = mayI C k l i ++ (if mayF C k (kn l) i then [i] else []) := filt_succ
  have hsd : dueI C k l (i + 1) = dueI C k l i ++ (if dueF C k (kn l) i then [i] else []) := filt_succ
  repeat ((fail_if_success refine c_probe (id := 6) ?_); (fail_if_success refine c_probe1 (id := 6) ?_); first|refine lVa rfl rfl (by first|exact pEv rfl|exact vLd rfl (by repeat constructor) rfl (by rfl)|fail) ?_|refine lNi ?_|refine cRg ?_|refine cSq ?_|refine xTh ?_|refine c_dec_t rfl (by first|omega|fail) ?_|refine cBl ?_|refine cSk ?_|fail)
  refine cSq ?_
  repeat (first|refine lVa rfl rfl (by first|exact pEv rfl|exact vLd rfl (by repeat constructor) rfl (by rfl)|fail) ?_|refine cRg ?_|fail)
  refine r_call rfl rfl rfl (fun W hW => hwt i _ W hlt hW) ?_
  have hmw : mayF C k (kn l) i = (match wtF C k (kn l) i with | some (m, x) => decide (x.lo <= m) && decide (m <= x.hi) | none => false) := rfl
  have hdw : dueF C k (kn l) i = (match wtF C k (kn l) i with | some (m, x) => decide (x.lo <= m) && decide (m = x.hi) | none => false) := rfl
  cases hw : wtF C k (kn l) i with
  | none =>
   have hv : wtV C k (kn l) i = [.int .i64 0, .agg ⟨[.int .i64 0, .int .i64 0, .int .i64 0, .int .i64 0]⟩, .bool false] := by unfold wtV; rw [hw]
   rw [hw] at hmw hdw
   simp only at hmw hdw
   rw [hmw, if_neg (by decide), List.append_nil] at hsm
   rw [hdw, if_neg (by decide), List.append_nil] at hsd
   rw [hv]
   repeat (first|refine lVa rfl rfl (by first|exact v_add rfl rfl (by omega) (by omega)|exact pEv rfl|fail) ?_|refine lNi ?_|refine cRg ?_|refine cSq ?_|refine xTh ?_|refine l_skip rfl rfl ?_|refine r_alloc rfl rfl rfl (by first|exact aggL|fail) (fun _ => ?_)|refine rSt rfl rfl rfl rfl rfl rfl rfl (by repeat constructor) (by rfl) ?_|refine c_false rfl ?_|refine cSk ?_|refine x_block ?_|fail)
   exact x_back ⟨i + 1, bb, cc, r, bb2, cc2, r2⟩ ⟨hlt, by simp only; rw [hsm]; exact hgr, by simp only; rw [hsd]; exact hgr2⟩ (by simp only; omega) (by simp only [hsm, hsd]; exact (by repeat (first|exact .nil|refine .cons rfl (by first|rfl|(congr 1; done)|exact congrArg _ (by omega)|(simp; done)) ?_))) (by simp only [hsm, hsd]; exact (by repeat (first|exact .nil|refine .keep (by first|rfl|assumption) ?_|refine .drop ?_|exact MSub.refl _)))
  | some p =>
   obtain ⟨m, x⟩ := p
   have hv : wtV C k (kn l) i = [.int .i64 m, .agg ⟨R22.lkE x⟩, .bool true] := by unfold wtV; rw [hw]
   rw [hw] at hmw hdw
   simp only at hmw hdw
   rw [hv]
   by_cases h1 : x.lo <= m
   rotate_left
   ·rw [decide_eq_false h1, Bool.false_and] at hmw hdw
    rw [hmw, if_neg (by decide), List.append_nil] at hsm
    rw [hdw, if_neg (by decide), List.append_nil] at hsd
    clear hmw hdw
    repeat (first|refine lVa rfl rfl (by first|exact v_add rfl rfl (by omega) (by omega)|exact pEv rfl|exact vLd rfl (by repeat constructor) rfl (by rfl)|fail) ?_|refine lNi ?_|refine cRg ?_|refine cSq ?_|refine xTh ?_|refine l_skip rfl rfl ?_|refine r_alloc rfl rfl rfl (by first|exact aggL|fail) (fun _ => ?_)|refine rSt rfl rfl rfl rfl rfl rfl rfl (by repeat constructor) (by rfl) ?_|refine c_false rfl ?_|refine cSk ?_|refine x_block ?_|refine l_dec_f rfl rfl rfl rfl rfl (by first|omega|fail) ?_|fail)
    exact x_back ⟨i + 1, bb, cc, r, bb2, cc2, r2⟩ ⟨hlt, by simp only; rw [hsm]; exact hgr, by simp only; rw [hsd]; exact hgr2⟩ (by simp only; omega) (by simp only [hsm, hsd]; exact (by repeat (first|exact .nil|refine .cons rfl (by first|rfl|(congr 1; done)|exact congrArg _ (by omega)|(simp; done)) ?_))) (by simp only [hsm, hsd]; exact (by repeat (first|exact .nil|refine .keep (by first|rfl|assumption) ?_|refine .drop ?_|exact MSub.refl _)))
   rw [decide_eq_true h1, Bool.true_and] at hmw hdw
   by_cases h2 : m <= x.hi
   rotate_left
   ·rw [decide_eq_false h2] at hmw
    rw [decide_eq_false (fun h => h2 (by omega))] at hdw
    rw [hmw, if_neg (by decide), List.append_nil] at hsm
    rw [hdw, if_neg (by decide), List.append_nil] at hsd
    clear hmw hdw
    repeat (first|refine lVa rfl rfl (by first|exact v_add rfl rfl (by omega) (by omega)|exact pEv rfl|exact vLd rfl (by repeat constructor) rfl (by rfl)|fail) ?_|refine lNi ?_|refine cRg ?_|refine cSq ?_|refine xTh ?_|refine r_alloc rfl rfl rfl (by first|exact aggL|fail) (fun _ => ?_)|refine rSt rfl rfl rfl rfl rfl rfl rfl (by repeat constructor) (by rfl) ?_|refine c_dec_f rfl (by first|omega|fail) ?_|refine cSk ?_|refine x_block ?_|refine l_dec_t rfl rfl rfl rfl rfl (by first|omega|fail) ?_|fail)
    exact x_back ⟨i + 1, bb, cc, r, bb2, cc2, r2⟩ ⟨hlt, by simp only; rw [hsm]; exact hgr, by simp only; rw [hsd]; exact hgr2⟩ (by simp only; omega) (by simp only [hsm, hsd]; exact (by repeat (first|exact .nil|refine .cons rfl (by first|rfl|(congr 1; done)|exact congrArg _ (by omega)|(simp; done)) ?_))) (by simp only [hsm, hsd]; exact (by repeat (first|exact .nil|refine .keep (by first|rfl|assumption) ?_|refine .drop ?_|exact MSub.refl _)))
   rw [decide_eq_true h2] at hmw
   rw [hmw, if_pos rfl] at hsm
   have hfm : flI (castL (mayI C k l i)) ++ [Value.int .i64 i] = flI (castL (mayI C k l (i + 1))) := by rw [hsm, castL_app, flI_app]; rfl
   have hlm : (mayI C k l i).length + 1 = (mayI C k l (i + 1)).length := by rw [hsm, List.length_append]; rfl
   clear hmw
   by_cases h3 : m = x.hi
   rotate_left
   ·rw [decide_eq_false h3] at hdw
    rw [hdw, if_neg (by decide), List.append_nil] at hsd
    clear hdw
    repeat (first|refine lVa rfl rfl (by first|exact pEv rfl|exact vLd rfl (by repeat constructor) rfl (by rfl)|fail) ?_|refine lNi ?_|refine cRg ?_|refine cSq ?_|refine xTh ?_|refine r_alloc rfl rfl rfl (by first|exact aggL|fail) (fun _ => ?_)|refine rSt rfl rfl rfl rfl rfl rfl rfl (by repeat constructor) (by rfl) ?_|refine r_buildSlice rfl rfl rfl rfl rfl rfl (by rfl) (fun _ => ?_)|refine c_dec_t rfl (by first|omega|fail) ?_|refine l_dec_t rfl rfl rfl rfl rfl (by first|omega|fail) ?_|fail)
    refine r_append (xs := flI (castL (mayI C k l i))) (rest := r) (n := (mayI C k l i).length) (cap := cc) (ys := [.int .i64 i]) rfl rfl rfl rfl rfl rfl (news_own (by repeat constructor)) (Rem.tail (Rem.tail (Rem.tail Rem.head))) hgr rfl rfl rfl (by omega) (by unfold maxLen; omega) (fun b' c' r' hg => ?_)
    rw [hfm, hlm] at hg ⊢
    repeat (first|refine lVa rfl rfl (by first|exact v_add rfl rfl (by omega) (by omega)|exact pEv rfl|exact vLd rfl (by repeat constructor) rfl (by rfl)|fail) ?_|refine lNi ?_|refine cRg ?_|refine cSq ?_|refine xTh ?_|refine c_dec_f rfl (by first|omega|fail) ?_|refine cSk ?_|refine x_block ?_|fail)
    refine x_perm (List.perm_middle (l₁ := [_, _, _])) ?_
    simp only [List.cons_append, List.nil_append]
    exact x_back ⟨i + 1, b', c', r', bb2, cc2, r2⟩ ⟨hlt, hg, by simp only; rw [hsd]; exact hgr2⟩ (by simp only; omega) (by simp only [hsd]; exact (by repeat (first|exact .nil|refine .cons rfl (by first|rfl|(congr 1; done)|exact congrArg _ (by omega)|(simp; done)) ?_))) (by simp only [hsd]; exact (by repeat (first|exact .nil|refine .keep (by first|rfl|assumption) ?_|refine .drop ?_|exact MSub.refl _)))
   ·rw [decide_eq_true h3] at hdw
    rw [hdw, if_pos rfl] at hsd
    have hfd : flI (castL (dueI C k l i)) ++ [Value.int .i64 i] = flI (castL (dueI C k l (i + 1))) := by rw [hsd, castL_app, flI_app]; rfl
    have hld : (dueI C k l i).length + 1 = (dueI C k l (i + 1)).length := by rw [hsd, List.length_append]; rfl
    clear hdw
    repeat (first|refine lVa rfl rfl (by first|exact pEv rfl|exact vLd rfl (by repeat constructor) rfl (by rfl)|fail) ?_|refine lNi ?_|refine cRg ?_|refine cSq ?_|refine xTh ?_|refine r_alloc rfl rfl rfl (by first|exact aggL|fail) (fun _ => ?_)|refine rSt rfl rfl rfl rfl rfl rfl rfl (by repeat constructor) (by rfl) ?_|refine r_buildSlice rfl rfl rfl rfl rfl rfl (by rfl) (fun _ => ?_)|refine c_dec_t rfl (by first|omega|fail) ?_|refine l_dec_t rfl rfl rfl rfl rfl (by first|omega|fail) ?_|fail)
    refine r_append (xs := flI (castL (mayI C k l i))) (rest := r) (n := (mayI C k l i).length) (cap := cc) (ys := [.int .i64 i]) rfl rfl rfl rfl rfl rfl (news_own (by repeat constructor)) (Rem.tail (Rem.tail (Rem.tail Rem.head))) hgr rfl rfl rfl (by omega) (by unfold maxLen; omega) (fun b' c' r' hg => ?_)
    rw [hfm, hlm] at hg ⊢
    repeat (first|refine lVa rfl rfl (by first|exact pEv rfl|exact vLd rfl (by repeat constructor) rfl (by rfl)|fail) ?_|refine lNi ?_|refine cRg ?_|refine cSq ?_|refine xTh ?_|refine r_buildSlice rfl rfl rfl rfl rfl rfl (by rfl) (fun _ => ?_)|refine c_dec_t rfl (by first|omega|fail) ?_|fail)
    refine r_append (xs := flI (castL (dueI C k l i))) (rest := r2) (n := (dueI C k l i).length) (cap := cc2) (ys := [.int .i64 i]) rfl rfl rfl rfl rfl rfl (news_own (by repeat constructor)) (Rem.tail (Rem.tail (Rem.tail (Rem.tail Rem.head)))) hgr2 rfl rfl rfl (by omega) (by unfold maxLen; omega) (fun b2' c2' r2' hg2 => ?_)
    rw [hfd, hld] at hg2 ⊢
    repeat (first|refine lVa rfl rfl (by first|exact v_add rfl rfl (by omega) (by omega)|exact pEv rfl|fail) ?_|refine lNi ?_|refine cRg ?_|refine xTh ?_|refine x_block ?_|fail)
    exact x_back ⟨i + 1, b', c', r', b2', c2', r2'⟩ ⟨hlt, hg, hg2⟩ (by simp only; omega) (by repeat (first|exact .nil|refine .cons rfl (by first|rfl|(congr 1; done)|exact congrArg _ (by omega)|(simp; done)) ?_)) (by repeat (first|exact .nil|refine .keep (by first|rfl|assumption) ?_|refine .drop ?_|exact MSub.refl _))
 ·have hie : i = n := by omega
  subst hie
  repeat (first|refine lVa rfl rfl (by first|exact pEv rfl|exact vLd rfl (by repeat constructor) rfl (by rfl)|fail) ?_|refine lNi ?_|refine cRg ?_|refine cSq ?_|refine xTh ?_|refine c_dec_f rfl (by first|omega|fail) ?_|refine c_ret ?_|refine c_exit ?_|refine xTe ?_|refine xBs ?_|fail)
  refine x_ret rfl rfl (by repeat constructor) rfl (fun W hW => ⟨⟨⟨bb, cc, r, bb2, cc2, r2⟩, hgr, hgr2⟩, rfl, hW.below, ?_⟩)
  have h1 := hW.own (bb, .cells ⟨flI (castL (mayI C k l i)) ++ r⟩ 3 (0, 0)) (by repeat constructor)
  have h2 := hW.own (bb2, .cells ⟨flI (castL (dueI C k l i)) ++ r2⟩ 3 (0, 0)) (by repeat constructor)
  have hnd := hW.nodup
  simp only [List.map_cons, List.nodup_cons, List.mem_cons, not_or] at hnd
  exact ⟨Nat.le_of_not_lt h1.1, h1.2, Nat.le_of_not_lt h2.1, h2.2, hnd.1.1⟩
end R24
end Go.Proofs

namespace Go
open Go.RowKit
namespace Kin
section
variable {P : Program} {N : Nat} {c : Cx} {Q : Exit -> Act -> World -> Prop} {env : List (Nat × Value)} {mem : List (Nat × Obj)} {L l : List Oper} {ty : TypeId} {pos : String} {af : Array Edge} {g : Option (Nat × Bool)}
/-- what is known of a call's ground: the worlds ahead of it and behind it -/
structure Gnd (c : Cx) (mem : List (Nat × Obj)) (W W' : World) : Prop where
 a : SatW c.w0 c.D c.J mem W
 z : SatW c.w0 c.D c.J mem W'
 b : Below W.heap.size W W'
/-- a call that hands back memory: all of it is ground from then on -/
theorem r_callG [Wide c.F] {d : Nat} {f : FuncId} [Ent P f] {args : List Operand} {ats : Array TypeId} {vs : List Value} {ι : Type} {v : ι -> Value} {Φ : ι -> World -> World -> Prop} (hw : wantB L env g = some true) (hd : Nat.blt d N = true) (ha : evOps env args some = some vs)
  (hc : ∀ W, SatW c.w0 c.D c.J mem W -> Calls P f ⟨vs⟩ W fun e W' => ∃ i, e = .returned (v i) /\ Below W.heap.size W W' /\ Φ i W W')
  (k : ∀ i W W', Gnd c mem W W' -> Φ i W W' -> RunL P N ⟨c.F, c.n, c.ds, W', allBut W' (mem.map (·.1)), noJ⟩ L l Q ((d, v i) :: env) mem) :
  RunL P N c L (⟨some d, .call ⟨.value (.func f), ⟨args⟩, ats⟩, ty, pos, af, g⟩ :: l) Q env mem :=
 l_run hw fun a W hA hm => by
  have h1 := hA.evals ha
  simp only [Option.some.injEq] at h1
  rw [semAt_plain _ rfl, p_call, h1]
  refine ⟨Wide.depth c.F c.n, (Wide.calls (F := c.F) (hc W hm)).mono ?_⟩
  rintro e W' ⟨i, rfl, hb, hΦ⟩
  have hm2 := hm.later hb
  exact (k i W W' ⟨hm, hm2, hb⟩ hΦ).run _ _ (hA.put hd _) (satW_fresh hm2.nodup fun p hp => (hm2.own p hp).2)
/-- the new ground keeps the old one -/
theorem Gnd.dom {W W' : World} (h : Gnd c mem W W') {k : Nat} (hk : c.D k) : allBut W' (mem.map (·.1)) k := by
 refine ⟨Nat.lt_of_lt_of_le (h.z.dom k hk) h.z.same.size, fun hm => ?_⟩
 obtain ⟨p, hp, e⟩ := List.mem_map.1 hm
 exact (h.z.own p hp).1 (e ▸ hk)
/-- what is new is ground -/
theorem Gnd.new {W W' : World} (h : Gnd c mem W W') {k : Nat} (hk : W.heap.size <= k) (h2 : k < W'.heap.size) : allBut W' (mem.map (·.1)) k := by
 refine ⟨h2, fun hm => ?_⟩
 obtain ⟨p, hp, e⟩ := List.mem_map.1 hm
 have := h.a.lt hp
 omega
end
/-- rows in memory that is new -/
theorem Gnd.arNew {c : Cx} {mem : List (Nat × Obj)} {W W' : World} (h : Gnd c mem W W') {b : Nat} {sz : Nat} {rows : List (List Value)} (hb : W.heap.size <= b) (hx : At W' (some ⟨b, 0, none⟩) sz rows) (hne : ∀ r ∈ rows, r ≠ []) (hlt : b < W'.heap.size) : Ar W' (allBut W' (mem.map (·.1))) (some ⟨b, 0, none⟩) sz rows := fun i r hr => by
 obtain ⟨b', o, e, hc⟩ := hx i r hr
 cases e
 exact ⟨_, _, rfl, h.new hb hlt, fun j v hv => hc j v hv⟩
end Kin
end Go

/- Rooms: Merge, walked. -/
import Derived.Test.YtajnkdgbpffinaaGreatRmE
import Derived.Test.YtajnkdgbpffinaaGreatEng59
set_option maxRecDepth 100000
set_option maxHeartbeats 400000000
set_option linter.unusedSectionVars false
set_option linter.unusedVariables false
set_option linter.unusedSimpArgs false
namespace Go.Proofs
open Go.RowKit Go.Kin Go.Kin.Cl
namespace R41
theorem Merge8_calls (B : Option Addr) (capB : Nat) (ps : List (Int × Int)) (A1 : Option Addr) (c1 : Nat) (a : List Int) (A2 : Option Addr) (c2 : Nat) (b : List Int) (w : World) (hB : Kin.At w B 19 (ps.map pE)) (hP : Sto ps) (hA1 : InZ w A1 c1 a) (hA2 : InZ w A2 c2 b) (hn1 : a.length <= 500) (hn2 : b.length <= 500) (hinc : (a ++ b).Pairwise (· < ·)) (hin : ∀ x ∈ a ++ b, x ∈ ps.map (·.1)) :
  Calls Tryz.prog 8 ⟨[.slice B ps.length capB, .slice A1 a.length c1, .slice A2 b.length c2]⟩ w (FrQ [] (fun i : Nat × Nat × List Value => .tuple ⟨[gSl (a ++ b) i.1 i.2.1, .int .i64 0]⟩) (fun i => gM inE 3 (a ++ b) i.1 i.2.2) w) := by
 have hsat := frQ_start (W := w) (pre := []) (by simp) fun p hp => by cases hp
 have hbl : ∀ {mem : List (Nat × Obj)} {W : World}, SatW w (allBut w (List.map (·.1) ([] : List (Nat × Obj)))) noJ mem W -> Under w.heap.size w W := fun hW => hW.same.below (Nat.le_refl _) fun k hk => ⟨hk, by simp⟩
 have hl := hP.len
 have hi1 := (List.pairwise_append.1 hinc).1
 have hi2 := (List.pairwise_append.1 hinc).2.1
 have hck := fun W (h : Under w.heap.size w W) => Check24_calls B capB ps W (hB.later h) hP
 have hv1 := fun W (h : Under w.heap.size w W) => version25_calls B capB ps A1 c1 a W (hB.later h) (by omega) hP.idn (hA1.later h) hn1 hi1 fun x hx => hin x (List.mem_append_left _ hx)
 have hv2 := fun W (h : Under w.heap.size w W) => version25_calls B capB ps A2 c2 b W (hB.later h) (by omega) hP.idn (hA2.later h) hn2 hi2 fun x hx => hin x (List.mem_append_right _ hx)
 have hun := fun W (h : Under w.heap.size w W) => union26_calls A1 c1 a A2 c2 b W (hA1.later h) (hA2.later h) hn1 hn2
 rw [unZ_incr hinc] at hun
 generalize a ++ b = ab at hun ⊢
 obtain ⟨n, hn⟩ : ∃ n, ps.length = n := ⟨_, rfl⟩
 obtain ⟨na, hna⟩ : ∃ n, a.length = n := ⟨_, rfl⟩
 obtain ⟨nb, hnb⟩ : ∃ n, b.length = n := ⟨_, rfl⟩
 rw [hn] at hck hv1 hv2 ⊢
 rw [hna] at hv1 hun hn1 ⊢
 rw [hnb] at hv2 hun hn2 ⊢
 clear hA1 hA2 hB hP hi1 hi2
 refine fEn Tryz.func8 rfl Tryz.ntmps8 rfl rfl hsat ?_
 repeat ((fail_if_success refine c_probe (id := 1) ?_); (fail_if_success refine c_probe1 (id := 1) ?_); first|refine lVa rfl rfl (by first|exact pEv rfl|fail) ?_|refine lNi ?_|refine cRg ?_|refine cSq ?_|refine xTh ?_|fail)
 refine cSq ?_
 repeat (first|refine lVa rfl rfl (by first|exact pEv rfl|fail) ?_|refine cRg ?_|refine cSq ?_|fail)
 refine r_call rfl rfl rfl (fun W hW => hck W (hbl hW)) ?_
 repeat ((fail_if_success refine c_probe (id := 7) ?_); (fail_if_success refine c_probe1 (id := 7) ?_); first|refine lVa rfl rfl (by first|exact pEv rfl|fail) ?_|refine lNi ?_|refine cRg ?_|refine cSq ?_|refine xTh ?_|refine r_buildSlice rfl rfl rfl rfl rfl rfl (by rfl) (fun _ => ?_)|refine c_false rfl ?_|refine c_dec_f rfl (by first|omega|exact fun h => h rfl|fail) ?_|refine cBl ?_|refine cSk ?_|fail)
 rename_i bq
 refine c_rounds 2 ?_
 repeat ((fail_if_success refine c_probe (id := 9) ?_); (fail_if_success refine c_probe1 (id := 9) ?_); first|refine lVa rfl rfl (by first|exact pEv rfl|exact vLd rfl (by repeat constructor) rfl (by rfl)|exact v_index rfl rfl rfl rfl (by omega) (by omega) (by with_reducible first|exact idx5 _|fail)|fail) ?_|refine lNi ?_|refine cRg ?_|refine cSq ?_|refine xTh ?_|refine c_true rfl ?_|refine cBl ?_|refine cSk ?_|fail)
 refine cSq ?_
 repeat (first|refine lVa rfl rfl (by first|exact pEv rfl|fail) ?_|refine cRg ?_|fail)
 refine r_call rfl rfl rfl (fun W hW => hv1 W (hbl hW)) ?_
 repeat (first|refine lVa rfl rfl (by first|exact v_add rfl rfl (by omega) (by omega)|exact pEv rfl|exact vLd rfl (by repeat constructor) rfl (by rfl)|exact v_index rfl rfl rfl rfl (by omega) (by omega) (by with_reducible first|exact idx5 _|fail)|fail) ?_|refine lNi ?_|refine cRg ?_|refine cSq ?_|refine xTh ?_|refine c_true rfl ?_|refine c_false rfl ?_|refine cBl ?_|refine cSk ?_|refine x_block ?_|fail)
 refine r_call rfl rfl rfl (fun W hW => hv2 W (hbl hW)) ?_
 repeat ((fail_if_success refine c_probe (id := 13) ?_); (fail_if_success refine c_probe1 (id := 13) ?_); first|refine lVa rfl rfl (by first|exact v_add rfl rfl (by omega) (by omega)|exact pEv rfl|fail) ?_|refine lNi ?_|refine cRg ?_|refine cSq ?_|refine xTh ?_|refine c_false rfl ?_|refine cSk ?_|refine c_exit ?_|refine xTe ?_|refine x_block ?_|refine xBs ?_|fail)
 refine cSq ?_
 repeat (first|refine lVa rfl rfl (by first|exact pEv rfl|fail) ?_|refine cRg ?_|fail)
 refine r_callF (pre := []) rfl rfl rfl (List.Perm.refl _) (fun W hW _ _ => hun W (hbl hW)) ?_
 rintro ⟨b1, c3, r1⟩
 simp only
 obtain ⟨X, hX⟩ : ∃ X, gM inE 3 ab b1 r1 = X := ⟨_, rfl⟩
 obtain ⟨V, hV⟩ : ∃ V, gSl ab b1 c3 = V := ⟨_, rfl⟩
 rw [hX, hV]
 repeat (first|refine lVa rfl rfl (by first|exact pEv rfl|fail) ?_|refine lNi ?_|refine xTh ?_|refine c_ret ?_|fail)
 exact x_ret rfl rfl (by repeat constructor) rfl (fun W hW => ⟨(b1, c3, r1), by simp only [hV], by simp only [hX]; exact hW.mono (List.sublist_append_left _ _)⟩)
end R41
end Go.Proofs

set_option maxRecDepth 100000
set_option maxHeartbeats 400000000
namespace Go.Proofs
open Go.RowKit Go.Kin Go.Kin.Cl
namespace R41
theorem less90_calls (x y : Int) (w : World) : Calls Tryz.prog 90 ⟨[.int .i64 x, .int .i64 y]⟩ w fun e w' => e = .returned (.bool (decide (x < y))) /\ Under w.heap.size w w' := by
 refine fEn Tryz.func90 rfl Tryz.ntmps90 rfl rfl (sWn w) ?_
 repeat (first|refine lVa rfl rfl (by first|exact pEv rfl|fail) ?_|refine lNi ?_|refine cRg ?_|refine cSq ?_|refine xTh ?_|fail)
 refine r_call rfl rfl rfl (fun W hW => nan92_calls x W) ?_
 repeat (first|refine lVa rfl rfl (by first|exact pEv rfl|fail) ?_|refine lNi ?_|refine xTh ?_|refine l_skip rfl rfl ?_|refine c_ret ?_|fail)
 exact x_ret rfl rfl (by repeat constructor) rfl (fun W hW => ⟨rfl, hW.below⟩)
theorem bs61_calls (A : Option Addr) (cap : Nat) (l : List Int) (i : Nat) (x : Int) (w : World) (hA : Kin.At w A 1 (l.map inE)) (hl : l.length <= 100000) (hinc : l.Pairwise (· < ·)) (hx : l[i]? = some x) :
  Calls Tryz.prog 61 ⟨[.slice A l.length cap, .int .i64 x]⟩ w fun e w' => e = .returned (.tuple ⟨[.int .i64 i, .bool true]⟩) /\ Under w.heap.size w w' := by
 obtain ⟨hi, hxi⟩ := List.getElem?_eq_some_iff.1 hx
 have hget : ∀ j, j < l.length -> ∃ y, l[j]? = some y /\ (j < i -> y < x) /\ (i < j -> x < y) /\ ∃ b o, A = some ⟨b, o, none⟩ /\ Ext w (base w) b (o + j) (inE y) := fun j hj => by
  obtain ⟨b, o, hAb, hc⟩ := hA j (inE l[j]) (by rw [List.getElem?_map, List.getElem?_eq_getElem hj]; rfl)
  have x1 := ext_of hc
  rw [Nat.mul_one] at x1
  refine ⟨l[j], List.getElem?_eq_getElem hj, fun h => ?_, fun h => ?_, b, o, hAb, x1⟩
  ·have := List.pairwise_iff_getElem.1 hinc j i hj hi h; rwa [hxi] at this
  ·have := List.pairwise_iff_getElem.1 hinc i j hi hj h; rwa [hxi] at this
 obtain ⟨n, hn⟩ : ∃ n, l.length = n := ⟨_, rfl⟩
 rw [hn] at hl hi hget ⊢
 refine fEn Tryz.func61 rfl Tryz.ntmps61 rfl rfl (sWn w) ?_
 repeat ((fail_if_success refine c_probe (id := 3) ?_); (fail_if_success refine c_probe1 (id := 3) ?_); first|refine lVa rfl rfl (by first|exact pEv rfl|fail) ?_|refine lNi ?_|refine cRg ?_|refine cSq ?_|refine xTh ?_|refine cBl ?_|fail)
 refine c_loop (ι := Nat × Nat) (fun s => s.1 <= i /\ i <= s.2 /\ s.2 <= n) (fun s => [(0, .slice A n cap), (1, .int .i64 x), (6, .int .i64 n), (7, .int .i64 s.1), (8, .int .i64 s.2)]) (fun _ => []) (fun s => s.2 - s.1) (0, n) ⟨Nat.zero_le _, Nat.le_of_lt hi, Nat.le_refl _⟩ (by repeat (first|exact .nil|refine .cons rfl (by first|rfl|(congr 1; done)|exact congrArg _ (by omega)|(simp; done)) ?_)) (by repeat (first|exact .nil|refine .keep (by first|rfl|assumption) ?_|refine .drop ?_|exact MSub.refl _)) ?_
 rintro ⟨lo, hh⟩ ⟨g1, g2, g3⟩
 simp only at g1 g2 g3 ⊢
 by_cases hlt : lo < hh
 rotate_left
 ·have h1 : lo = i := by omega
  subst h1
  obtain ⟨y, hy, -, -, b, o, hAb, x1⟩ := hget lo hi
  rw [hx] at hy
  cases hy
  rw [hAb]
  clear hget
  repeat ((fail_if_success refine c_probe (id := 8) ?_); (fail_if_success refine c_probe1 (id := 8) ?_); first|refine lVa rfl rfl (by first|exact pEv rfl|fail) ?_|refine lNi ?_|refine cRg ?_|refine cSq ?_|refine xTh ?_|refine c_dec_f rfl (by first|omega|fail) ?_|refine c_exit ?_|refine xTe ?_|refine xBs ?_|fail)
  repeat (first|refine lVa rfl rfl (by first|exact pEv rfl|exact vL0 rfl (by assumption) rfl (by rfl)|exact v_index rfl rfl rfl rfl (by omega) (by omega) (by with_reducible first|exact idx2 _ _|fail)|fail) ?_|refine lNi ?_|refine cRg ?_|refine cSq ?_|refine xTh ?_|refine l_skip rfl rfl ?_|refine c_ret ?_|refine l_dec_t rfl rfl rfl rfl rfl (by first|omega|fail) ?_|fail)
  exact x_ret rfl rfl (by repeat constructor) rfl (fun W hW => ⟨rfl, hW.below⟩)
 obtain ⟨m, hm⟩ : ∃ m, (lo + hh) / 2 = m := ⟨_, rfl⟩
 have hm1 : lo <= m /\ m < hh := by omega
 obtain ⟨y, hy, h3, h4, b, o, hAb, x1⟩ := hget m (by omega)
 have hcl := fun W => less90_calls y x W
 rw [hAb]
 clear hget
 repeat ((fail_if_success refine c_probe (id := 4) ?_); (fail_if_success refine c_probe1 (id := 4) ?_); first|refine lVa rfl rfl (by first|exact pEv rfl|fail) ?_|refine lNi ?_|refine cRg ?_|refine cSq ?_|refine xTh ?_|refine c_dec_t rfl (by first|omega|fail) ?_|refine cBl ?_|refine cSk ?_|fail)
 refine cSq ?_
 refine cRg ?_
 refine lVa rfl rfl (by exact pEv rfl) ?_
 refine lVa rfl rfl (by exact pEv rfl) ?_
 refine lVa rfl rfl (v_add rfl rfl (by omega) (by omega)) ?_
 refine lVa rfl rfl (v_uconv (m := lo + hh) rfl rfl rfl (by omega)) ?_
 refine lVa rfl rfl (v_ushr (n := 1) rfl rfl (by omega)) ?_
 rw [show (lo + hh) / 2 ^ 1 = m by rw [Nat.pow_one]; exact hm]
 repeat ((fail_if_success refine c_probe (id := 5) ?_); (fail_if_success refine c_probe1 (id := 5) ?_); first|refine lVa rfl rfl (by first|exact v_iconv rfl rfl rfl (by omega) (by omega)|exact pEv rfl|fail) ?_|refine lNi ?_|refine xTh ?_|fail)
 refine cSq ?_
 repeat (first|refine lVa rfl rfl (by first|exact pEv rfl|exact vL0 rfl (by assumption) rfl (by rfl)|exact v_index rfl rfl rfl rfl (by omega) (by omega) (by with_reducible first|exact idx2 _ _|fail)|fail) ?_|refine cRg ?_|fail)
 refine r_call rfl rfl rfl (fun W hW => hcl W) ?_
 by_cases hs1 : m < i
 ·have h5 := h3 hs1
  clear h3 h4
  rw [decide_eq_true h5]
  repeat ((fail_if_success refine c_probe (id := 8) ?_); (fail_if_success refine c_probe1 (id := 8) ?_); first|refine lVa rfl rfl (by first|exact v_add rfl rfl (by omega) (by omega)|exact pEv rfl|fail) ?_|refine lNi ?_|refine cRg ?_|refine xTh ?_|refine c_true rfl ?_|refine x_block ?_|fail)
  exact x_back (m + 1, hh) ⟨hs1, g2, g3⟩ (by simp only; omega) (by repeat (first|exact .nil|refine .cons rfl (by first|rfl|(congr 1; done)|exact congrArg _ (by omega)|(simp; done)) ?_)) (by repeat (first|exact .nil|refine .keep (by first|rfl|assumption) ?_|refine .drop ?_|exact MSub.refl _))
 have h5 : ¬ y < x := by
  by_cases h6 : m = i
  ·subst h6; rw [hx] at hy; cases hy; omega
  ·have := h4 (by omega); omega
 clear h3 h4
 rw [decide_eq_false h5]
 repeat ((fail_if_success refine c_probe (id := 8) ?_); (fail_if_success refine c_probe1 (id := 8) ?_); first|refine lVa rfl rfl (by first|exact pEv rfl|fail) ?_|refine lNi ?_|refine cRg ?_|refine xTh ?_|refine c_false rfl ?_|refine x_block ?_|fail)
 exact x_back (lo, m) ⟨g1, by simp only; omega, by simp only; omega⟩ (by simp only; omega) (by repeat (first|exact .nil|refine .cons rfl (by first|rfl|(congr 1; done)|exact congrArg _ (by omega)|(simp; done)) ?_)) (by repeat (first|exact .nil|refine .keep (by first|rfl|assumption) ?_|refine .drop ?_|exact MSub.refl _))
theorem cloneS53_calls (A : Option Addr) (cap : Nat) (l : List Sg) (w : World) (hA : Kin.At w A 14 (l.map sgE)) (hne : l ≠ []) (hl : l.length <= 100000) :
  Calls Tryz.prog 53 ⟨[.slice A l.length cap]⟩ w (FrQ [] (fun i : { i : Nat × Nat × List Value // gOK sgE 14 l i.2.1 i.2.2 } => .slice (some ⟨i.1.1, 0, none⟩) l.length i.1.2.1) (fun i => [(i.1.1, .cells ⟨(l.map sgE).flatten ++ i.1.2.2⟩ 32 (0, 0))]) w) := by
 have hsat := frQ_start (W := w) (pre := []) (by simp) fun p hp => by cases hp
 obtain ⟨b, o, rfl, h2, h3⟩ := at_drop (i := 0) hA (by decide) (fun r hr => by obtain ⟨s, _, rfl⟩ := List.mem_map.1 hr; rfl) (by rw [List.length_map]; exact List.length_pos_iff.2 hne)
 have x1 : Ext w (allBut w (List.map (·.1) ([] : List (Nat × Obj)))) b o (l.map sgE).flatten := ⟨⟨h2, by simp⟩, fun j v hj => by
  have := h3 0 (Nat.le_refl _) j v (by rw [List.drop_zero]; exact hj)
  rwa [Nat.zero_mul, Nat.add_zero] at this⟩
 have hone : allOne (l.map sgE).flatten = true := by
  have : ∀ l : List Sg, allOne (l.map sgE).flatten = true := fun l => by
   induction l with
   | nil => rfl
   | cons x l ih => exact ih
  exact this l
 refine fEn Tryz.func53 rfl Tryz.ntmps53 rfl rfl hsat ?_
 repeat (first|refine lVa rfl rfl (by first|exact pEv rfl|fail) ?_|refine lNi ?_|refine cRg ?_|refine cSq ?_|refine xTh ?_|refine r_buildSlice rfl rfl rfl rfl rfl rfl (by rfl) (fun _ => ?_)|refine c_false rfl ?_|refine cSk ?_|refine lVa rfl rfl (v_eqNilS rfl rfl) ?_|fail)
 refine r_append (xs := []) (rest := []) (n := 0) (cap := 0) (ys := (l.map sgE).flatten) rfl rfl rfl rfl rfl rfl (news_ext x1) Rem.head ⟨rfl, rfl, Nat.le_refl _, Nat.zero_le _⟩ (sgE_rows l) hone rfl (by omega) (by unfold maxLen; omega) (fun b' c' r' hg => ?_)
 rw [Nat.zero_add] at hg ⊢
 rw [List.nil_append] at hg ⊢
 have hg' := fun (_ : Unit) => hg
 clear hg
 repeat (first|refine lVa rfl rfl (by first|exact pEv rfl|fail) ?_|refine lNi ?_|refine xTh ?_|refine c_ret ?_|fail)
 refine x_ret rfl rfl (by repeat constructor) rfl (fun W hW => ⟨⟨(b', c', r'), fun _ => hg' ()⟩, rfl, hW.mono (MSub.sub (by repeat (first|exact .nil|refine .keep (by first|rfl|assumption) ?_|refine .drop ?_|exact MSub.refl _)))⟩)
end R41
end Go.Proofs

namespace Go
open Go.RowKit
namespace Kin
section
variable {P : Program} {N : Nat} {c : Cx} {Q : Exit -> Act -> World -> Prop} {env : List (Nat × Value)} {mem : List (Nat × Obj)} {L l : List Oper} {ty : TypeId} {pos : String} {af : Array Edge} {g : Option (Nat × Bool)} {d : Nat} [Wide c.F]
theorem r_callB {f : FuncId} [Ent P f] {args : List Operand} {ats : Array TypeId} {vs : List Value} {ι : Type} {v : ι -> Value} (hw : wantB L env g = some true) (hd : Nat.blt d N = true) (ha : evOps env args some = some vs)
  (hc : ∀ W, SatW c.w0 c.D c.J mem W -> Calls P f ⟨vs⟩ W fun e W' => ∃ i, e = .returned (v i) /\ Under W.heap.size W W')
  (k : ∀ i, RunL P N c L l Q ((d, v i) :: env) mem) : RunL P N c L (⟨some d, .call ⟨.value (.func f), ⟨args⟩, ats⟩, ty, pos, af, g⟩ :: l) Q env mem :=
 l_call (ι := ι) (v := v) (mem' := fun _ => mem) hw hd ha (fun W hm => (hc W hm).mono fun _ _ ⟨i, h1, h2⟩ => ⟨i, h1, hm.later h2⟩) k
end
end Kin
end Go

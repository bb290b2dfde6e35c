/- Uncertain networks: the specification's Chain and Check. -/
import Derived.Test.YtcodoembnjemkaaGreatStMts
import Derived.Test.YtcodoembnjemkaaGreatCtRow
import Derived.Test.YtcodoembnjemkaaGreatSgE
set_option maxRecDepth 100000
set_option maxHeartbeats 400000000
set_option linter.unusedSectionVars false
set_option linter.unusedVariables false
set_option linter.unusedSimpArgs false
namespace Go.Proofs
open Go.RowKit Go.Kin Go.Kin.St Go.Kin.Ct
open R22
namespace R23
/-- an Uncertain, as it lies -/
structure Un where
 n : Int
 A : Option Addr
 cap : Nat
 L : List Lk
 B : Option Addr
 cab : Nat
 C : List Lk
@[reducible] def Un.v (u : Un) : List Value := [.int .i64 u.n, .slice u.A u.L.length u.cap, .slice u.B u.C.length u.cab]
structure Un.In (u : Un) (w : World) : Prop where
 l : Kin.At w u.A 4 (u.L.map lkE)
 c : Kin.At w u.B 4 (u.C.map lkE)
theorem Un.In.later {u : Un} {w w' : World} (h : u.In w) (k : Below w.heap.size w w') : u.In w' := ⟨h.l.later k, h.c.later k⟩
theorem Un.In.sat {u : Un} {w W : World} {J : (Nat -> Prop) -> World -> Prop} {mem : List (Nat × Obj)} (h : u.In w) (hm : SatW w (base w) J mem W) : u.In W := ⟨h.l.sat hm, h.c.sat hm⟩
/-- what `into` answers -/
def intoI (C : List Lk) (p : Int) : Int := match into C p with | some i => i | none => -1
theorem intoI_some {C : List Lk} {p : Int} {i : Nat} (h : into C p = some i) : intoI C p = i := by unfold intoI; rw [h]
theorem intoI_none {C : List Lk} {p : Int} (h : into C p = none) : intoI C p = -1 := by unfold intoI; rw [h]
theorem into_drop {C : List Lk} {p : Int} : ∀ k, (∀ x ∈ C.take k, x.to ≠ p) -> into C p = (into (C.drop k) p).map (· + k) := by
 induction C with
 | nil => intro k _; simp [into]
 | cons y C ih =>
  intro k hk
  cases k with
  | zero => simp
  | succ k =>
   have h1 : y.to ≠ p := hk y (by simp)
   have h2 := ih k fun x hx => hk x (by simp [hx])
   rw [into, if_neg h1, h2, List.drop_succ_cons, Option.map_map]
   congr 1
theorem into_at {C : List Lk} {p : Int} {k : Nat} {x : Lk} (hk : ∀ x ∈ C.take k, x.to ≠ p) (hx : C[k]? = some x) (hp : x.to = p) : into C p = some k := by
 rw [into_drop k hk]
 obtain ⟨hlt, he⟩ := List.getElem?_eq_some_iff.1 hx
 rw [List.drop_eq_getElem_cons hlt, into, he, if_pos hp]
 simp
theorem into_no {C : List Lk} {p : Int} (h : ∀ x ∈ C, x.to ≠ p) : into C p = none := by
 have := into_drop (C := C) (p := p) C.length (by rw [List.take_length]; exact h)
 rw [List.drop_length] at this
 exact this
theorem into_calls (u : Un) (p : Int) (w : World) (hA : u.In w) (hl : u.C.length <= 9223372036854775807) :
  Calls Tryz.prog 95 ⟨[.agg ⟨u.v⟩, .int .i64 p]⟩ w fun e w' => e = .returned (.int .i64 (intoI u.C p)) /\ Below w.heap.size w w' := by
 obtain ⟨n, A, cap, L, B, cab, C⟩ := u
 have hB := hA.c
 simp only at hB hl ⊢
 refine fEn Tryz.func95 rfl Tryz.ntmps95 rfl rfl (sWn w) ?_
 repeat (first|refine lVa rfl rfl (by first|exact pEv rfl|fail) ?_|refine lNi ?_|refine cRg ?_|refine cSq ?_|refine xTh ?_|refine r_box rfl rfl rfl rfl (fun _ => ?_)|refine cBl ?_|fail)
 rename_i b
 refine c_loop (ι := Nat) (fun k => k <= C.length /\ ∀ x ∈ C.take k, x.to ≠ p) (fun k => [(1, .int .i64 p), (2, .pointer (some ⟨b, 0, none⟩)), (5, .int .i64 k)]) (fun _ => [(b, .cells ⟨[.int .i64 n, .slice A L.length cap, .slice B C.length cab]⟩ 24 (0, 0))]) (fun k => C.length - k) 0 ⟨by omega, by simp⟩ (by repeat (first|exact .nil|refine .cons rfl (by first|rfl|(congr 1; done)|exact congrArg _ (by omega)|(simp; done)) ?_)) (by repeat (first|exact .nil|refine .keep (by first|rfl|assumption) ?_|refine .drop ?_|exact MSub.refl _)) ?_
 rintro k ⟨hk, hF⟩
 by_cases hlt : k < C.length
 ·obtain ⟨x, hx⟩ : ∃ x, C[k]? = some x := ⟨_, List.getElem?_eq_getElem hlt⟩
  obtain ⟨b', o, rfl, hc⟩ := hB k (lkE x) (by simp [hx])
  have he := ext_of hc
  by_cases hp : x.to = p
  ·repeat (first|refine lVa rfl rfl (by first|exact pEv rfl|exact vLd rfl (by repeat constructor) rfl (by rfl)|exact vLe rfl (by assumption) rfl (by rfl)|exact v_index rfl rfl rfl rfl (by omega) (by omega) (by with_reducible first|exact idx4 _ _ _|fail)|fail) ?_|refine lNi ?_|refine cRg ?_|refine cSq ?_|refine xTh ?_|refine c_dec_t rfl (by first|omega|fail) ?_|refine cBl ?_|refine cSk ?_|refine c_ret ?_|refine xTr ?_|refine xBr ?_|fail)
   exact x_ret rfl rfl (by repeat constructor) rfl (fun W hW => ⟨by rw [intoI_some (into_at hF hx hp)], hW.below⟩)
  ·repeat (first|refine lVa rfl rfl (by first|exact v_add rfl rfl (by omega) (by omega)|exact pEv rfl|exact vLd rfl (by repeat constructor) rfl (by rfl)|exact vLe rfl (by assumption) rfl (by rfl)|exact v_index rfl rfl rfl rfl (by omega) (by omega) (by with_reducible first|exact idx4 _ _ _|fail)|fail) ?_|refine lNi ?_|refine cRg ?_|refine cSq ?_|refine xTh ?_|refine c_dec_t rfl (by first|omega|fail) ?_|refine c_dec_f rfl (by first|omega|fail) ?_|refine cBl ?_|refine cSk ?_|refine x_block ?_|fail)
   refine x_back (k + 1) ⟨hlt, fun y hy => ?_⟩ (by omega) (by repeat (first|exact .nil|refine .cons rfl (by first|rfl|(congr 1; done)|exact congrArg _ (by omega)|(simp; done)) ?_)) (by repeat (first|exact .nil|refine .keep (by first|rfl|assumption) ?_|refine .drop ?_|exact MSub.refl _))
   rw [List.take_add_one, hx] at hy
   rcases List.mem_append.1 hy with h | h
   ·exact hF y h
   ·simp only [Option.toList_some, List.mem_singleton] at h
    rw [h]; exact hp
 ·have hkl : k = C.length := by omega
  subst hkl
  rw [List.take_length] at hF
  repeat (first|refine lVa rfl rfl (by first|exact pEv rfl|exact vLd rfl (by repeat constructor) rfl (by rfl)|fail) ?_|refine lNi ?_|refine cRg ?_|refine cSq ?_|refine xTh ?_|refine c_dec_f rfl (by first|omega|fail) ?_|refine c_ret ?_|refine c_exit ?_|refine xTe ?_|refine xBs ?_|fail)
  exact x_ret rfl rfl (by repeat constructor) rfl (fun W hW => ⟨by rw [intoI_none (into_no hF)], hW.below⟩)
/-- the called links are right, one by one -/
def Ends (n : Int) (C : List Lk) : Prop := ∀ i x, C[i]? = some x -> Cal n x /\ into C x.to = some i
noncomputable instance (n : Int) (C : List Lk) : Decidable (Ends n C) := Classical.propDecidable _
theorem ends_calls (u : Un) (w : World) (hA : u.In w) (hl : u.C.length <= 1000) :
  Calls Tryz.prog 77 ⟨[.agg ⟨u.v⟩]⟩ w fun e w' => e = .returned (.bool (decide (Ends u.n u.C))) /\ Below w.heap.size w w' := by
 have hin : ∀ (p : Int) (mem : List (Nat × Obj)) (W : World), SatW w (base w) noJ mem W -> Calls Tryz.prog 95 ⟨[.agg ⟨u.v⟩, .int .i64 p]⟩ W fun e w' => e = .returned (.int .i64 (intoI u.C p)) /\ Below W.heap.size W w' := fun p mem W hW => into_calls u p W (hA.sat hW) (by omega)
 have hB := hA.c
 obtain ⟨n, A, cap, L, B, cab, C⟩ := u
 simp only at hB hl hin ⊢
 refine fEn Tryz.func77 rfl Tryz.ntmps77 rfl rfl (sWn w) ?_
 repeat (first|refine lVa rfl rfl (by first|exact pEv rfl|fail) ?_|refine lNi ?_|refine cRg ?_|refine cSq ?_|refine xTh ?_|refine r_box rfl rfl rfl rfl (fun _ => ?_)|refine cBl ?_|fail)
 rename_i b
 refine c_loop (ι := Nat) (fun k => k <= C.length /\ ∀ i x, i < k -> C[i]? = some x -> Cal n x /\ into C x.to = some i) (fun k => [(1, .pointer (some ⟨b, 0, none⟩)), (2, .bool false), (3, .int .i64 k)]) (fun _ => [(b, .cells ⟨[.int .i64 n, .slice A L.length cap, .slice B C.length cab]⟩ 24 (0, 0))]) (fun k => C.length - k) 0 ⟨by omega, fun i x hi => by omega⟩ (by repeat (first|exact .nil|refine .cons rfl (by first|rfl|(congr 1; done)|exact congrArg _ (by omega)|(simp; done)) ?_)) (by repeat (first|exact .nil|refine .keep (by first|rfl|assumption) ?_|refine .drop ?_|exact MSub.refl _)) ?_
 rintro k ⟨hk, hF⟩
 by_cases hlt : k < C.length
 ·obtain ⟨x, hx⟩ : ∃ x, C[k]? = some x := ⟨_, List.getElem?_eq_getElem hlt⟩
  obtain ⟨b', o, rfl, hq⟩ := hB k (lkE x) (by simp [hx])
  have he := ext_of hq
  by_cases hc : Cal n x
  ·have hcc := hc
   unfold Cal at hcc
   obtain ⟨c1, c2, c3, c4, c5, c6, c7, c8⟩ := hcc
   repeat (first|refine lVa rfl rfl (by first|exact pEv rfl|exact vLd rfl (by repeat constructor) rfl (by rfl)|exact vL0 rfl (by assumption) rfl (by rfl)|exact v_index rfl rfl rfl rfl (by omega) (by omega) (by with_reducible first|exact idx4 _ _ _|fail)|fail) ?_|refine lNi ?_|refine cRg ?_|refine cSq ?_|refine xTh ?_|refine r_alloc rfl rfl rfl (by first|exact aggL|fail) (fun _ => ?_)|refine rSt rfl rfl rfl rfl rfl rfl rfl (by repeat constructor) (by rfl) ?_|refine c_dec_t rfl (by first|omega|fail) ?_|refine c_dec_f rfl (by first|omega|fail) ?_|refine cBl ?_|refine cSk ?_|refine l_dec_f rfl rfl rfl rfl rfl (by first|omega|fail) ?_|fail)
   refine r_call rfl rfl rfl (fun W hW => hin x.to _ W hW) ?_
   by_cases hi : into C x.to = some k
   ·rw [intoI_some hi]
    repeat (first|refine lVa rfl rfl (by first|exact v_add rfl rfl (by omega) (by omega)|exact pEv rfl|fail) ?_|refine lNi ?_|refine cRg ?_|refine cSq ?_|refine xTh ?_|refine c_dec_f rfl (by first|omega|fail) ?_|refine cSk ?_|refine x_block ?_|fail)
    refine x_back (k + 1) ⟨hlt, fun i y hi2 hy => ?_⟩ (by omega) (by repeat (first|exact .nil|refine .cons rfl (by first|rfl|(congr 1; done)|exact congrArg _ (by omega)|(simp; done)) ?_)) (by repeat (first|exact .nil|refine .keep (by first|rfl|assumption) ?_|refine .drop ?_|exact MSub.refl _))
    by_cases e : i = k
    ·subst e
     rw [hx] at hy
     cases hy
     exact ⟨hc, hi⟩
    ·exact hF i y (by omega) hy
   ·have hne : intoI C x.to ≠ k := fun h => by
     unfold intoI at h
     cases hj : into C x.to with
     | none => rw [hj] at h; simp only at h; omega
     | some j => rw [hj] at h hi; simp only at h; exact hi (by congr 1; omega)
    have hno : ¬ Ends n C := fun h => hi (h k x hx).2
    repeat (first|refine lVa rfl rfl (by first|exact pEv rfl|fail) ?_|refine lNi ?_|refine cRg ?_|refine cSq ?_|refine xTh ?_|refine c_dec_t rfl (by first|omega|fail) ?_|refine c_ret ?_|refine xTr ?_|refine xBr ?_|fail)
    exact x_ret rfl rfl (by repeat constructor) rfl (fun W hW => ⟨by rw [decide_eq_false hno], hW.below⟩)
  ·have hno : ¬ Ends n C := fun h => hc (h k x hx).1
   repeat' (first|refine lVa rfl rfl (by first|exact pEv rfl|exact vLd rfl (by repeat constructor) rfl (by rfl)|exact vL0 rfl (by assumption) rfl (by rfl)|exact v_index rfl rfl rfl rfl (by omega) (by omega) (by with_reducible first|exact idx4 _ _ _|fail)|fail) ?_|refine lNi ?_|refine cRg ?_|refine cSq ?_|refine xTh ?_|refine l_skip rfl rfl ?_|refine r_alloc rfl rfl rfl (by first|exact aggL|fail) (fun _ => ?_)|refine rSt rfl rfl rfl rfl rfl rfl rfl (by repeat constructor) (by rfl) ?_|refine c_true rfl ?_|refine c_dec_t rfl (by first|omega|fail) ?_|refine cBl ?_|refine cSk ?_|refine c_ret ?_|refine xTr ?_|refine xBr ?_|refine l_dec rfl rfl rfl rfl rfl (fun _ => ?_) (fun _ => ?_)|refine c_dec rfl (fun _ => ?_) (fun _ => ?_)|fail)
   all_goals first
    | exact x_ret rfl rfl (by repeat constructor) rfl (fun W hW => ⟨by rw [decide_eq_false hno], hW.below⟩)
    | exact absurd (show Cal n x by unfold Cal; omega) hc
 ·have hyes : Ends n C := fun i x hx => hF i x (by have := (List.getElem?_eq_some_iff.1 hx).1; omega) hx
  repeat (first|refine lVa rfl rfl (by first|exact pEv rfl|exact vLd rfl (by repeat constructor) rfl (by rfl)|fail) ?_|refine lNi ?_|refine cRg ?_|refine cSq ?_|refine xTh ?_|refine c_dec_f rfl (by first|omega|fail) ?_|refine c_ret ?_|refine c_exit ?_|refine xTe ?_|refine xBs ?_|fail)
  exact x_ret rfl rfl (by repeat constructor) rfl (fun W hW => ⟨by rw [decide_eq_true hyes], hW.below⟩)
/-! ## Chain -/
theorem climb_snoc {C : List Lk} : ∀ {j : Nat} {p : Int} {i : Nat}, (climb C j p).1.length = j -> into C (climb C j p).2 = some i -> climb C (j + 1) p = ((climb C j p).1 ++ [i], frm C i)
 | 0, p, i, _, h => climb_some (show into C p = some i from h) 0
 | j + 1, p, i, hl, h => by
  cases hp : into C p with
  | none => rw [climb_none hp] at hl; simp at hl
  | some k =>
   rw [climb_some hp] at hl h
   rw [climb_some hp (j + 1), climb_snoc (j := j) (by simpa using hl) h, climb_some hp j]
   rfl
/-- the links to a point after so many steps, the one at the root first -/
def outC (C : List Lk) (j : Nat) (p : Int) : List Int := (climb C j p).1.reverse.map fun i : Nat => (i : Int)
theorem outC_len {C : List Lk} {j : Nat} {p : Int} (h : (climb C j p).1.length = j) : (outC C j p).length = j := by unfold outC; rw [List.length_map, List.length_reverse, h]
/-- what Chain answers -/
def ChainQ (n : Nat) (C : List Lk) (p : Int) (w : World) (e : Ending) (w' : World) : Prop :=
 ∃ j b cap rest, j <= n + 1 /\ (climb C j p).1.length = j /\ (into C (climb C j p).2 = none ∨ j = n + 1) /\ e = .returned (.tuple ⟨[.slice (some ⟨b, 0, none⟩) j cap, .int .i64 (climb C j p).2, .bool (decide (j <= n))]⟩) /\
  Grow 1 j (flatI (outC C j p)) cap rest /\ Below w.heap.size w w' /\ w.heap.size <= b /\ w'.heap[b]? = some (.cells ⟨flatI (outC C j p) ++ rest⟩ 3 (0, 0))
structure CS where
 j : Nat
 b : Nat
 c : Nat
 r : List Value
theorem Chain_calls (u : Un) (N : Nat) (p : Int) (w : World) (hn : u.n = N) (hN : N <= 64) (hA : u.In w) (hl : u.C.length <= 1000) :
  Calls Tryz.prog 78 ⟨[.agg ⟨u.v⟩, .int .i64 p]⟩ w (ChainQ N u.C p w) := by
 have hin : ∀ (p : Int) (mem : List (Nat × Obj)) (W : World), SatW w (base w) noJ mem W -> Calls Tryz.prog 95 ⟨[.agg ⟨u.v⟩, .int .i64 p]⟩ W fun e w' => e = .returned (.int .i64 (intoI u.C p)) /\ Below W.heap.size W w' := fun p mem W hW => into_calls u p W (hA.sat hW) (by omega)
 have hB := hA.c
 obtain ⟨n, A, cap, L, B, cab, C⟩ := u
 simp only at hB hl hin hn ⊢
 subst hn
 refine fEn Tryz.func78 rfl Tryz.ntmps78 rfl rfl (sWn w) ?_
 repeat (first|refine lVa rfl rfl (by first|exact pEv rfl|exact vLd rfl (by repeat constructor) rfl (by rfl)|fail) ?_|refine lNi ?_|refine cRg ?_|refine cSq ?_|refine xTh ?_|refine r_box rfl rfl rfl rfl (fun _ => ?_)|refine r_buildSlice rfl rfl rfl rfl rfl rfl (by rfl) (fun _ => ?_)|fail)
 refine r_call rfl rfl rfl (fun W hW => hin p _ W hW) ?_
 repeat (first|refine lVa rfl rfl (by first|exact pEv rfl|fail) ?_|refine lNi ?_|refine cSq ?_|refine xTh ?_|refine cBl ?_|fail)
 rename_i b b0
 refine c_loop (ι := CS) (fun s => s.j <= N + 1 /\ (climb C s.j p).1.length = s.j /\ Grow 1 s.j (flatI (outC C s.j p)) s.c s.r) (fun s => [(1, .int .i64 (climb C s.j p).2), (2, .pointer (some ⟨b, 0, none⟩)), (4, .slice none 0 0), (5, .int .i64 0), (6, .bool false), (7, .slice (some ⟨s.b, 0, none⟩) s.j s.c), (8, .int .i64 (intoI C (climb C s.j p).2))])
  (fun s => [(s.b, .cells ⟨flatI (outC C s.j p) ++ s.r⟩ 3 (0, 0)), (b, .cells ⟨[.int .i64 N, .slice A L.length cap, .slice B C.length cab]⟩ 24 (0, 0))]) (fun s => N + 1 - s.j) ⟨0, b0, 0, []⟩ ⟨Nat.zero_le _, rfl, ⟨rfl, rfl, Nat.le_refl _, (show (0 : Nat) <= maxLen by decide)⟩⟩ (by repeat (first|exact .nil|refine .cons rfl (by first|rfl|(congr 1; done)|exact congrArg _ (by omega)|(simp; done)) ?_)) (by repeat (first|exact .nil|refine .keep (by first|rfl|assumption) ?_|refine .drop ?_|exact MSub.refl _)) ?_
 rintro ⟨j, bo, co, ro⟩ ⟨hj, hcl, hg⟩
 simp only at hj hcl hg ⊢
 cases hi : into C (climb C j p).2 with
 | none =>
  rw [intoI_none hi]
  repeat (first|refine lVa rfl rfl (by first|exact pEv rfl|fail) ?_|refine lNi ?_|refine cRg ?_|refine cSq ?_|refine xTh ?_|refine l_skip rfl rfl ?_|refine c_false rfl ?_|refine c_ret ?_|refine c_exit ?_|refine xTe ?_|refine xBs ?_|refine c_reads rfl (by decide +kernel) ?_|refine q_val rfl rfl (by first|exact pEv rfl|exact vLd rfl (by repeat constructor) rfl (by rfl)|fail) ?_|refine q_nil ?_|fail)
  exact x_ret rfl rfl (by repeat constructor) rfl (fun W hW => ⟨j, bo, co, ro, hj, hcl, .inl hi, by first|rfl|(congr 1; done)|(simp; done), hg, hW.below, Nat.le_of_not_lt (hW.own (bo, _) (by repeat constructor)).1, (hW.own (bo, _) (by repeat constructor)).2⟩)
 | some i =>
  rw [intoI_some hi]
  by_cases hjn : j <= N
  ·have hci := into_lt hi
   obtain ⟨x, hx, -⟩ := into_some hi
   obtain ⟨b', o, rfl, hc⟩ := hB i (lkE x) (by simp [hx])
   have he := ext_of hc
   have hf : frm C i = x.fr := by unfold frm; rw [hx]
   have hsn := climb_snoc hcl hi
   have hout : flatI (outC C (j + 1) p) = [.int .i64 (i : Int)] ++ flatI (outC C j p) := by
    unfold outC; rw [hsn, List.reverse_append, List.map_append, flatI_app]; rfl
   repeat (first|refine lVa rfl rfl (by first|exact pEv rfl|exact vLd rfl (by repeat constructor) rfl (by rfl)|fail) ?_|refine lNi ?_|refine cRg ?_|refine cSq ?_|refine xTh ?_|refine r_buildSlice rfl rfl rfl rfl rfl rfl (by rfl) (fun _ => ?_)|refine c_dec_t rfl (by first|omega|fail) ?_|refine cBl ?_|refine cSk ?_|fail)
   refine r_append (n := 1) (xs := [.int .i64 (i : Int)]) (rest := []) (m := j) (ys := flatI (outC C j p)) rfl rfl rfl rfl rfl rfl (news_pre (by repeat constructor)) (by repeat (first|exact Rem.head|apply Rem.tail)) ⟨rfl, rfl, Nat.le_refl _, (show (1 : Nat) <= maxLen by decide)⟩ (by rw [flatI_len, outC_len hcl]) (flatI_one _) (by decide) (by omega) (by unfold maxLen; omega) (fun b7 c7 r7 hg7 => ?_)
   rw [<- hout] at hg7 ⊢
   rw [Nat.add_comm 1 j] at hg7 ⊢
   repeat (first|refine lVa rfl rfl (by first|exact pEv rfl|exact vLd rfl (by repeat constructor) rfl (by rfl)|exact vL0 rfl (by assumption) rfl (by rfl)|exact v_index rfl rfl rfl rfl (by omega) (by omega) (by with_reducible first|exact idx4 _ _ _|fail)|fail) ?_|refine lNi ?_|refine cRg ?_|refine cSq ?_|refine xTh ?_|fail)
   refine r_call rfl rfl rfl (fun W hW => hin x.fr _ W hW) ?_
   rw [<- hf, show frm C i = (climb C (j + 1) p).2 by rw [hsn]]
   repeat (first|refine lVa rfl rfl (by first|exact pEv rfl|fail) ?_|refine lNi ?_|refine x_block ?_|fail)
   exact x_back ⟨j + 1, b7, c7, r7⟩ ⟨by simp only; omega, by rw [hsn, List.length_append, hcl]; rfl, hg7⟩ (by simp only; omega) (by repeat (first|exact .nil|refine .cons rfl (by first|rfl|(congr 1; done)|exact congrArg _ (by omega)|(simp; done)) ?_)) (by repeat (first|exact .nil|refine .keep (by first|rfl|assumption) ?_|refine .drop ?_|exact MSub.refl _))
  ·have hje : j = N + 1 := by omega
   repeat (first|refine lVa rfl rfl (by first|exact pEv rfl|exact vLd rfl (by repeat constructor) rfl (by rfl)|fail) ?_|refine lNi ?_|refine cRg ?_|refine cSq ?_|refine xTh ?_|refine c_dec_f rfl (by first|omega|fail) ?_|refine c_ret ?_|refine c_exit ?_|refine xTe ?_|refine xBs ?_|refine c_reads rfl (by decide +kernel) ?_|refine q_val rfl rfl (by first|exact pEv rfl|exact vLd rfl (by repeat constructor) rfl (by rfl)|fail) ?_|refine q_nil ?_|fail)
   exact x_ret rfl rfl (by repeat constructor) rfl (fun W hW => ⟨j, bo, co, ro, hj, hcl, .inr hje, by first|rfl|(congr 1; done)|(simp; done), hg, hW.below, Nat.le_of_not_lt (hW.own (bo, _) (by repeat constructor)).1, (hW.own (bo, _) (by repeat constructor)).2⟩)
end R23
end Go.Proofs

set_option maxRecDepth 100000
set_option maxHeartbeats 400000000
namespace Go.Proofs
open Go.RowKit Go.Kin Go.Kin.St Go.Kin.Ct
open R22
namespace R23
/-- a chain as Chain hands it back -/
structure ChR (N : Nat) (C : List Lk) (p : Int) where
 j : Nat
 b : Nat
 c : Nat
 r : List Value
 le : j <= N + 1
 len : (climb C j p).1.length = j
 stop : into C (climb C j p).2 = none ∨ j = N + 1
 grow : Grow 1 j (flatI (outC C j p)) c r
def ChR.v {N : Nat} {C : List Lk} {p : Int} (s : ChR N C p) : Value := .tuple ⟨[.slice (some ⟨s.b, 0, none⟩) s.j s.c, .int .i64 (climb C s.j p).2, .bool (decide (s.j <= N))]⟩
theorem ChainQ.r {N : Nat} {C : List Lk} {p : Int} {w w' : World} {e : Ending} (h : ChainQ N C p w e w') : ∃ i : ChR N C p, e = .returned i.v /\ Below w.heap.size w w' /\ w.heap.size <= i.b /\ w'.heap[i.b]? = some (.cells ⟨flatI (outC C i.j p) ++ i.r⟩ 3 (0, 0)) := by
 obtain ⟨j, b, c, r, h1, h2, h3, h4, h5, h6, h7, h8⟩ := h
 exact ⟨⟨j, b, c, r, h1, h2, h3, h5⟩, h4, h6, h7, h8⟩
theorem climb_more {C : List Lk} {f : Nat} {p : Int} (h : (climb C (f + 1) p).1.length = f + 1) : into C (climb C f p).2 ≠ none := fun h2 => by
 rw [climb_stop h2 1] at h
 have := climb_len C f p
 omega
theorem ChR.ok {N : Nat} {C : List Lk} {p : Int} (s : ChR N C p) : s.j <= N ↔ into C (climb C N p).2 = none := by
 constructor
 ·intro h
  rcases s.stop with h1 | h1
  ·have := climb_stop h1 (N - s.j)
   rw [show s.j + (N - s.j) = N by omega] at this
   rw [this]; exact h1
  ·omega
 ·intro h
  rcases Nat.lt_or_ge N s.j with h1 | h1
  ·have h2 : s.j = N + 1 := by have := s.le; omega
   have h3 := s.len
   rw [h2] at h3
   exact absurd h (climb_more h3)
  ·exact h1
/-- all chains end -/
def okT (N : Nat) (C : List Lk) : Prop := ∀ p : Nat, p < N -> into C (climb C N p).2 = none
noncomputable instance (N : Nat) (C : List Lk) : Decidable (okT N C) := Classical.propDecidable _
/-- what Check answers -/
noncomputable def chkU (n : Int) (L C : List Lk) : Int := if chk n L ≠ 0 then chk n L else if 256 < C.length then 2 else if Ends n C /\ okT n.toNat C then 0 else 230
theorem chkU_a {n : Int} {L C : List Lk} (h : chk n L ≠ 0) : chkU n L C = chk n L := if_pos h
theorem chkU_2 {n : Int} {L C : List Lk} (h : chk n L = 0) (h2 : 256 < C.length) : chkU n L C = 2 := by unfold chkU; rw [if_neg (fun g => g h), if_pos h2]
theorem chkU_0 {n : Int} {L C : List Lk} (h : chk n L = 0) (h2 : ¬ 256 < C.length) (h3 : Ends n C /\ okT n.toNat C) : chkU n L C = 0 := by unfold chkU; rw [if_neg (fun g => g h), if_neg h2, if_pos h3]
theorem chkU_230 {n : Int} {L C : List Lk} (h : chk n L = 0) (h2 : ¬ 256 < C.length) (h3 : ¬ (Ends n C /\ okT n.toNat C)) : chkU n L C = 230 := by unfold chkU; rw [if_neg (fun g => g h), if_neg h2, if_neg h3]
theorem chk_ok {n : Int} {l : List Lk} (h : chk n l = 0) : 1 <= n /\ n <= 64 /\ l.length <= 256 /\ Fine n l := by
 unfold chk at h
 split at h
 ·cases h
 ·split at h
  ·cases h
  ·split at h
   ·rename_i h1 h2 h3
    exact ⟨by omega, by omega, by omega, h3⟩
   ·cases h
theorem Ends.tree {N : Nat} {C : List Lk} (h : Ends N C) (h2 : okT N C) : Tree N C := ⟨fun x hx => by
 obtain ⟨i, hi⟩ := List.getElem?_of_mem hx
 exact (h i x hi).1, fun i x hi => (h i x hi).2, h2⟩
theorem chkU_ok {n : Int} {L C : List Lk} (h : chkU n L C = 0) : 1 <= n /\ n <= 64 /\ L.length <= 256 /\ C.length <= 256 /\ Fine n L /\ Tree n.toNat C := by
 by_cases h1 : chk n L = 0
 ·obtain ⟨a, b, c, d⟩ := chk_ok h1
  by_cases h2 : 256 < C.length
  ·rw [chkU_2 h1 h2] at h; cases h
  ·by_cases h3 : Ends n C /\ okT n.toNat C
   ·refine ⟨a, b, c, by omega, d, Ends.tree (by rw [show ((n.toNat : Nat) : Int) = n by omega]; exact h3.1) h3.2⟩
   ·rw [chkU_230 h1 h2 h3] at h; cases h
 ·rw [chkU_a h1] at h; exact absurd h h1
theorem rCheckU_calls (u : Un) (w : World) (hA : u.In w) (hl : u.L.length <= 1000) (hc : u.C.length <= 1000) :
  Calls Tryz.prog 49 ⟨[.agg ⟨u.v⟩]⟩ w fun e w' => e = .returned (.int .i64 (chkU u.n u.L u.C)) /\ Below w.heap.size w w' := by
 have hck : ∀ (mem : List (Nat × Obj)) (W : World), SatW w (base w) noJ mem W -> Calls Tryz.prog 76 ⟨[.agg ⟨netCells u.n u.A u.L.length u.cap⟩]⟩ W fun e w' => e = .returned (.int .i64 (chk u.n u.L)) /\ Below W.heap.size W w' := fun mem W hW => rcheck_calls u.n u.A u.cap u.L W hl (hA.l.sat hW)
 have hen : ∀ (mem : List (Nat × Obj)) (W : World), SatW w (base w) noJ mem W -> Calls Tryz.prog 77 ⟨[.agg ⟨u.v⟩]⟩ W fun e w' => e = .returned (.bool (decide (Ends u.n u.C))) /\ Below W.heap.size W w' := fun mem W hW => ends_calls u W (hA.sat hW) hc
 have hch : ∀ (N : Nat) (p : Int) (mem : List (Nat × Obj)) (W : World), u.n = N -> N <= 64 -> SatW w (base w) noJ mem W -> Calls Tryz.prog 78 ⟨[.agg ⟨u.v⟩, .int .i64 p]⟩ W (ChainQ N u.C p W) := fun N p mem W h1 h2 hW => Chain_calls u N p W h1 h2 (hA.sat hW) hc
 obtain ⟨n, A, cap, L, B, cab, C⟩ := u
 simp only [Un.v] at hl hc hck hen hch ⊢
 refine fEn Tryz.func49 rfl Tryz.ntmps49 rfl rfl (sWn w) ?_
 repeat (first|refine lVa rfl rfl (by first|exact pEv rfl|exact vLd rfl (by repeat constructor) rfl (by rfl)|exact v_build rfl rfl (by rfl)|fail) ?_|refine lNi ?_|refine cRg ?_|refine cSq ?_|refine xTh ?_|refine r_box rfl rfl rfl rfl (fun _ => ?_)|fail)
 rename_i b
 refine r_call rfl rfl rfl (fun W hW => hck _ W hW) ?_
 by_cases h1 : chk n L = 0
 rotate_left
 ·repeat (first|refine lVa rfl rfl (by first|exact pEv rfl|fail) ?_|refine lNi ?_|refine cRg ?_|refine cSq ?_|refine xTh ?_|refine c_dec_t rfl (by first|omega|fail) ?_|refine c_ret ?_|refine xTr ?_|fail)
  exact x_ret rfl rfl (by repeat constructor) rfl (fun W hW => ⟨by rw [chkU_a h1], hW.below⟩)
 rw [h1]
 by_cases h2 : 256 < C.length
 ·repeat (first|refine lVa rfl rfl (by first|exact pEv rfl|exact vLd rfl (by repeat constructor) rfl (by rfl)|fail) ?_|refine lNi ?_|refine cRg ?_|refine cSq ?_|refine xTh ?_|refine c_false rfl ?_|refine c_dec_t rfl (by first|omega|fail) ?_|refine cSk ?_|refine c_ret ?_|refine xTr ?_|fail)
  exact x_ret rfl rfl (by repeat constructor) rfl (fun W hW => ⟨by rw [chkU_2 h1 h2], hW.below⟩)
 obtain ⟨n1, n2, l1, hF⟩ := chk_ok h1
 obtain ⟨N, rfl⟩ : ∃ N : Nat, n = N := ⟨n.toNat, by omega⟩
 repeat (first|refine lVa rfl rfl (by first|exact pEv rfl|exact vLd rfl (by repeat constructor) rfl (by rfl)|fail) ?_|refine lNi ?_|refine cRg ?_|refine cSq ?_|refine xTh ?_|refine c_false rfl ?_|refine c_dec_f rfl (by first|omega|fail) ?_|refine cSk ?_|fail)
 refine r_call rfl rfl rfl (fun W hW => hen _ W hW) ?_
 by_cases h3 : Ends N C
 rotate_left
 ·rw [decide_eq_false h3]
  repeat (first|refine lVa rfl rfl (by first|exact pEv rfl|fail) ?_|refine lNi ?_|refine cRg ?_|refine cSq ?_|refine xTh ?_|refine c_true rfl ?_|refine c_ret ?_|refine xTr ?_|fail)
  exact x_ret rfl rfl (by repeat constructor) rfl (fun W hW => ⟨by rw [chkU_230 h1 h2 (fun g => h3 g.1)], hW.below⟩)
 rw [decide_eq_true h3]
 repeat (first|refine lVa rfl rfl (by first|exact pEv rfl|fail) ?_|refine lNi ?_|refine cRg ?_|refine cSq ?_|refine xTh ?_|refine c_false rfl ?_|refine cBl ?_|refine cSk ?_|fail)
 refine c_loop (ι := Nat) (fun k => k <= N /\ ∀ p : Nat, p < k -> into C (climb C N p).2 = none) (fun k => [(1, .pointer (some ⟨b, 0, none⟩)), (2, .int .i64 0), (5, .int .i64 k)]) (fun _ => [(b, .cells ⟨[.int .i64 N, .slice A L.length cap, .slice B C.length cab]⟩ 24 (0, 0))]) (fun k => N - k) 0 ⟨Nat.zero_le _, fun p hp => by omega⟩ (by repeat (first|exact .nil|refine .cons rfl (by first|rfl|(congr 1; done)|exact congrArg _ (by omega)|(simp; done)) ?_)) (by repeat (first|exact .nil|refine .keep (by first|rfl|assumption) ?_|refine .drop ?_|exact MSub.refl _)) ?_
 rintro k ⟨hk, hT⟩
 by_cases hlt : k < N
 ·repeat (first|refine lVa rfl rfl (by first|exact pEv rfl|exact vLd rfl (by repeat constructor) rfl (by rfl)|fail) ?_|refine lNi ?_|refine cRg ?_|refine cSq ?_|refine xTh ?_|refine c_dec_t rfl (by first|omega|fail) ?_|refine cBl ?_|refine cSk ?_|fail)
  refine r_call1 (ι := ChR N C k) (v := fun s => s.v) (bk := fun s => s.b) (o := fun s => .cells ⟨flatI (outC C s.j k) ++ s.r⟩ 3 (0, 0)) rfl rfl rfl (fun W hW => (hch N k _ W rfl (by omega) hW).mono fun e W' h => ChainQ.r h) (fun s => ?_)
  unfold ChR.v
  by_cases hs : s.j <= N
  ·rw [decide_eq_true hs]
   repeat (first|refine lVa rfl rfl (by first|exact v_add rfl rfl (by omega) (by omega)|exact pEv rfl|fail) ?_|refine lNi ?_|refine cRg ?_|refine cSq ?_|refine xTh ?_|refine c_false rfl ?_|refine cSk ?_|refine x_block ?_|fail)
   refine x_back (k + 1) ⟨hlt, fun p hp => ?_⟩ (by omega) (by repeat (first|exact .nil|refine .cons rfl (by first|rfl|(congr 1; done)|exact congrArg _ (by omega)|(simp; done)) ?_)) (by repeat (first|exact .nil|refine .keep (by first|rfl|assumption) ?_|refine .drop ?_|exact MSub.refl _))
   by_cases e : p = k
   ·rw [e]; exact s.ok.1 hs
   ·exact hT p (by omega)
  ·rw [decide_eq_false hs]
   repeat (first|refine lVa rfl rfl (by first|exact pEv rfl|fail) ?_|refine lNi ?_|refine cRg ?_|refine cSq ?_|refine xTh ?_|refine c_true rfl ?_|refine c_ret ?_|refine xTr ?_|refine xBr ?_|fail)
   exact x_ret rfl rfl (by repeat constructor) rfl (fun W hW => ⟨by rw [chkU_230 h1 h2 (fun g => hs (s.ok.2 (g.2 k (by simpa using hlt))))], hW.below⟩)
 ·have hkN : k = N := by omega
  repeat (first|refine lVa rfl rfl (by first|exact pEv rfl|exact vLd rfl (by repeat constructor) rfl (by rfl)|fail) ?_|refine lNi ?_|refine cRg ?_|refine cSq ?_|refine xTh ?_|refine c_dec_f rfl (by first|omega|fail) ?_|refine c_ret ?_|refine c_exit ?_|refine xTe ?_|refine xBs ?_|fail)
  exact x_ret rfl rfl (by repeat constructor) rfl (fun W hW => ⟨by rw [chkU_0 h1 h2 ⟨h3, fun p hp => hT p (by rw [Int.toNat_natCast] at hp; omega)⟩], hW.below⟩)
end R23
end Go.Proofs

set_option maxRecDepth 100000
set_option maxHeartbeats 400000000
namespace Go.Proofs
open Go.RowKit Go.Kin Go.Kin.St Go.Kin.Ct Go.Kin.Sg
namespace R24
/-- what is answered -/
noncomputable def chkS (n : Int) (L C : List Lk) (T : Int) : Int :=
 if R23.chkU n L C ≠ 0 then R23.chkU n L C else if T < 1 ∨ 15 < T then 1 else if 6 < n ∨ 4096 < (T.toNat + 1) ^ n.toNat then 2 else if C.any (fun x => decide (x.lo < 1)) then 240 else 0
theorem chkS_a {n T : Int} {L C : List Lk} (h : R23.chkU n L C ≠ 0) : chkS n L C T = R23.chkU n L C := if_pos h
theorem chkS_1 {n T : Int} {L C : List Lk} (h : R23.chkU n L C = 0) (h1 : T < 1 ∨ 15 < T) : chkS n L C T = 1 := by unfold chkS; rw [if_neg (fun g => g h), if_pos h1]
theorem chkS_2 {n T : Int} {L C : List Lk} (h : R23.chkU n L C = 0) (h1 : ¬ (T < 1 ∨ 15 < T)) (h2 : 6 < n ∨ 4096 < (T.toNat + 1) ^ n.toNat) : chkS n L C T = 2 := by unfold chkS; rw [if_neg (fun g => g h), if_neg h1, if_pos h2]
theorem chkS_3 {n T : Int} {L C : List Lk} (h : R23.chkU n L C = 0) (h1 : ¬ (T < 1 ∨ 15 < T)) (h2 : ¬ (6 < n ∨ 4096 < (T.toNat + 1) ^ n.toNat)) : chkS n L C T = if C.any (fun x => decide (x.lo < 1)) then 240 else 0 := by unfold chkS; rw [if_neg (fun g => g h), if_neg h1, if_neg h2]
theorem chkS_ok {n T : Int} {L C : List Lk} (h : chkS n L C T = 0) : R23.chkU n L C = 0 /\ 1 <= T /\ T <= 15 /\ n <= 6 /\ (T.toNat + 1) ^ n.toNat <= 4096 /\ ∀ x ∈ C, 1 <= x.lo := by
 by_cases h0 : R23.chkU n L C = 0
 ·by_cases h1 : T < 1 ∨ 15 < T
  ·rw [chkS_1 h0 h1] at h; cases h
  ·by_cases h2 : 6 < n ∨ 4096 < (T.toNat + 1) ^ n.toNat
   ·rw [chkS_2 h0 h1 h2] at h; cases h
   ·rw [chkS_3 h0 h1 h2] at h
    split at h
    ·cases h
    ·rename_i h3
     refine ⟨h0, by omega, by omega, by omega, by omega, fun x hx => ?_⟩
     have h4 : C.any (fun x => decide (x.lo < 1)) = false := by simpa using h3
     have := List.any_eq_false.1 h4 x hx
     simp only [decide_eq_true_eq] at this
     omega
 ·rw [chkS_a h0] at h; exact absurd h h0
theorem low_calls (x : Lk) (w : World) : Calls Tryz.prog 48 ⟨[] ++ [.agg ⟨lkE x⟩] ++ []⟩ w fun e w' => e = .returned (.bool (decide (x.lo < 1))) /\ Below w.heap.size w w' := by
 refine fEn Tryz.func48 rfl Tryz.ntmps48 rfl rfl (sWn w) ?_
 repeat (first|refine lVa rfl rfl (by first|exact pEv rfl|exact vLd rfl (by repeat constructor) rfl (by rfl)|fail) ?_|refine lNi ?_|refine cRg ?_|refine cSq ?_|refine xTh ?_|refine r_box rfl rfl rfl rfl (fun _ => ?_)|refine c_ret ?_|fail)
 exact x_ret rfl rfl (by repeat constructor) rfl (fun W hW => ⟨rfl, hW.below⟩)
theorem indexL_calls (B : Option Addr) (cap : Nat) (C : List Lk) (w : World) (hB : Kin.At w B 4 (C.map lkE)) (hl : C.length <= 9223372036854775807) :
  Calls Tryz.prog 75 ⟨[.slice B C.length cap, .func (.func 48) ⟨[]⟩ ⟨[]⟩]⟩ w fun e w' => ∃ r : { r : Int // decide (0 <= r) = C.any (fun x => decide (x.lo < 1)) }, e = .returned (.int .i64 r.1) /\ Below w.heap.size w w' := by
 refine fEn Tryz.func75 rfl Tryz.ntmps75 rfl rfl (sWn w) ?_
 repeat (first|refine lVa rfl rfl (by first|exact pEv rfl|fail) ?_|refine lNi ?_|refine cRg ?_|refine cSq ?_|refine xTh ?_|refine cBl ?_|fail)
 refine c_loop (ι := Nat) (fun k => k <= C.length /\ ∀ x ∈ C.take k, decide (x.lo < 1) = false) (fun k => [(0, .slice B C.length cap), (1, .func (.func 48) ⟨[]⟩ ⟨[]⟩), (7, .int .i64 C.length), (8, .int .i64 k)]) (fun _ => []) (fun k => C.length - k) 0 ⟨Nat.zero_le _, fun u hu => by simp at hu⟩ (by repeat (first|exact .nil|refine .cons rfl (by first|rfl|(congr 1; done)|exact congrArg _ (by omega)|(simp; done)) ?_)) (by repeat (first|exact .nil|refine .keep (by first|rfl|assumption) ?_|refine .drop ?_|exact MSub.refl _)) ?_
 rintro k ⟨hk, hF⟩
 by_cases hlt : k < C.length
 ·obtain ⟨y, hy⟩ : ∃ y, C[k]? = some y := ⟨_, List.getElem?_eq_getElem hlt⟩
  obtain ⟨b', o, rfl, hc⟩ := hB k (lkE y) (by simp [hy])
  have he := ext_of hc
  repeat (first|refine lVa rfl rfl (by first|exact pEv rfl|exact vL0 rfl (by assumption) rfl (by rfl)|exact v_index rfl rfl rfl rfl (by omega) (by omega) (by with_reducible first|exact idx4 _ _ _|fail)|fail) ?_|refine lNi ?_|refine cRg ?_|refine cSq ?_|refine xTh ?_|refine c_dec_t rfl (by first|omega|fail) ?_|refine cBl ?_|refine cSk ?_|fail)
  refine r_callv rfl rfl rfl rfl rfl (fun W hW => low_calls y W) ?_
  cases hg : decide (y.lo < 1) with
  | false =>
   repeat (first|refine lVa rfl rfl (by first|exact v_add rfl rfl (by omega) (by omega)|exact pEv rfl|fail) ?_|refine lNi ?_|refine cRg ?_|refine xTh ?_|refine c_false rfl ?_|refine cSk ?_|refine x_block ?_|fail)
   refine x_back (k + 1) ⟨hlt, fun z hz => ?_⟩ (by omega) (by repeat (first|exact .nil|refine .cons rfl (by first|rfl|(congr 1; done)|exact congrArg _ (by omega)|(simp; done)) ?_)) (by repeat (first|exact .nil|refine .keep (by first|rfl|assumption) ?_|refine .drop ?_|exact MSub.refl _))
   rw [List.take_add_one, hy] at hz
   rcases List.mem_append.1 hz with h | h
   ·exact hF z h
   ·simp only [Option.toList_some, List.mem_singleton] at h
    rw [h]; exact hg
  | true =>
   repeat (first|refine lVa rfl rfl (by first|exact pEv rfl|fail) ?_|refine lNi ?_|refine cRg ?_|refine cSq ?_|refine xTh ?_|refine c_true rfl ?_|refine c_ret ?_|refine xTr ?_|refine xBr ?_|fail)
   exact x_ret rfl rfl (by repeat constructor) rfl (fun W hW => ⟨⟨(k : Int), by rw [decide_eq_true (by omega)]; exact (List.any_eq_true.2 ⟨y, List.mem_of_getElem? hy, hg⟩).symm⟩, rfl, hW.below⟩)
 ·have hkl : k = C.length := by omega
  subst hkl
  rw [List.take_length] at hF
  repeat (first|refine lVa rfl rfl (by first|exact pEv rfl|fail) ?_|refine lNi ?_|refine cRg ?_|refine cSq ?_|refine xTh ?_|refine c_dec_f rfl (by first|omega|fail) ?_|refine c_ret ?_|refine c_exit ?_|refine xTe ?_|refine xBs ?_|fail)
  exact x_ret rfl rfl (by repeat constructor) rfl (fun W hW => ⟨⟨-1, by rw [decide_eq_false (by omega)]; exact (List.any_eq_false.2 fun x hx => by rw [hF x hx]; simp).symm⟩, rfl, hW.below⟩)
theorem anyL_calls (B : Option Addr) (cap : Nat) (C : List Lk) (w : World) (hB : Kin.At w B 4 (C.map lkE)) (hl : C.length <= 9223372036854775807) :
  Calls Tryz.prog 47 ⟨[.slice B C.length cap, .func (.func 48) ⟨[]⟩ ⟨[]⟩]⟩ w fun e w' => e = .returned (.bool (C.any (fun x => decide (x.lo < 1)))) /\ Below w.heap.size w w' := by
 refine fEn Tryz.func47 rfl Tryz.ntmps47 rfl rfl (sWn w) ?_
 repeat (first|refine lVa rfl rfl (by first|exact pEv rfl|fail) ?_|refine lNi ?_|refine cRg ?_|refine cSq ?_|refine xTh ?_|fail)
 refine r_callI (ι := { r : Int // decide (0 <= r) = C.any (fun x => decide (x.lo < 1)) }) (v := fun r => .int .i64 r.1) rfl rfl rfl (fun W hW => indexL_calls B cap C W (hB.sat hW) hl) (fun r => ?_)
 repeat (first|refine lVa rfl rfl (by first|exact pEv rfl|fail) ?_|refine lNi ?_|refine xTh ?_|refine c_ret ?_|fail)
 exact x_ret rfl rfl (by repeat constructor) rfl (fun W hW => ⟨by rw [r.2], hW.below⟩)
end R24
end Go.Proofs

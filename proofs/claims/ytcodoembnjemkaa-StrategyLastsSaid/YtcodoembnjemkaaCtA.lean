/- Rows in new memory. (Generic; begun as collate's.) -/
import Derived.Test.YtcodoembnjemkaaTy
import Derived.Test.YtcodoembnjemkaaEng26
import Derived.Test.YtcodoembnjemkaaSgMath
import Derived.Test.YtcodoembnjemkaaStMts
import Derived.Test.YtcodoembnjemkaaCtMath
set_option linter.unusedSectionVars false
set_option linter.unusedVariables false
set_option linter.unusedSimpArgs false
namespace Go.Proofs
open Go.RowKit Go.Kin
namespace R23
abbrev tt := R24.tt
def inE (x : Int) : List Value := [.int .i64 x]
/-- rows in memory that is new -/
structure Fr (w w' : World) (A : Option Addr) (sz : Nat) (rows : List (List Value)) : Prop where
  at' : Kin.At w' A sz rows
  new : ∀ a, A = some a → rows ≠ [] → w.heap.size ≤ a.block
theorem Fr.nil {w w' : World} {A : Option Addr} {sz : Nat} : Fr w w' A sz [] := ⟨fun i cs h => by simp at h, fun _ _ h => absurd rfl h⟩
def flatI (l : List Int) : List Value := (l.map inE).flatten
theorem flatI_len (l : List Int) : (flatI l).length = l.length * 1 := by
  induction l with
  | nil => rfl
  | cons x l ih => unfold flatI at ih ⊢; rw [List.map_cons, List.flatten_cons, List.length_append, ih, List.length_cons]; show 1 + _ = _; omega
theorem flatI_app (l m : List Int) : flatI (l ++ m) = flatI l ++ flatI m := by unfold flatI; rw [List.map_append, List.flatten_append]
theorem flatI_snoc (l : List Int) (x : Int) : flatI (l ++ [x]) = flatI l ++ [.int .i64 x] := flatI_app l [x]
theorem flatI_one (l : List Int) : allOne (flatI l) = true := by
  induction l with
  | nil => rfl
  | cons x l ih => exact ih
theorem in_len (l : List Int) : ∀ r ∈ l.map inE, r.length = 1 := fun r hr => by obtain ⟨x, _, rfl⟩ := List.mem_map.1 hr; rfl
theorem fr_rows {w w' : World} {b : Nat} {sz : Nat} {rows : List (List Value)} {rest : List Value} {T : TypeId} (hb : w.heap.size ≤ b) (hl : ∀ r ∈ rows, r.length = sz) (h : w'.heap[b]? = some (.cells ⟨rows.flatten ++ rest⟩ T (0, 0))) : Fr w w' (some ⟨b, 0, none⟩) sz rows := by
  have hsat : SatW w' (fun _ => False) noJ [(b, .cells ⟨rows.flatten ++ rest⟩ T (0, 0))] w' :=
    ⟨Same.refl _ _, fun _ h => h.elim, by simp, fun p hp => by rw [List.mem_singleton.1 hp]; exact ⟨id, h⟩, closed_noJ, trivial⟩
  exact ⟨hsat.rows (b := b) (rest := rest) (List.mem_singleton.2 rfl) rfl hl, fun a e _ => by cases e; exact hb⟩
theorem Fr.ar {w w' : World} {A : Option Addr} {sz : Nat} {rows : List (List Value)} (h : Fr w w' A sz rows) (hne : ∀ r ∈ rows, r ≠ []) {ks : List Nat} (hks : ∀ k ∈ ks, k < w.heap.size) : Ar w' (allBut w' ks) A sz rows := fun i r hr => by
  obtain ⟨b, o, e, hc⟩ := h.at' i r hr
  cases r with
  | nil => exact absurd rfl (hne [] (List.mem_of_getElem? hr))
  | cons x cs =>
    have he := ext_of hc
    refine ⟨b, o, e, ⟨⟨he.dom, fun hb => ?_⟩, he.cell⟩⟩
    have h1 := hks b hb
    have h2 := h.new _ e (fun h0 => by rw [h0] at hr; simp at hr)
    have h3 : w.heap.size ≤ b := h2
    omega
theorem news_pre {c : Cx} {mem : List (Nat × Obj)} {b : Nat} {ys rest : List Value} {T' : TypeId} {fr : Nat × Nat} (hm : (b, Obj.cells ⟨ys ++ rest⟩ T' fr) ∈ mem) : News c mem b 0 ys :=
  ⟨fun W hW j v hj => by rw [hW.cellAt hm, Nat.zero_add, List.getElem?_append_left (List.getElem?_eq_some_iff.1 hj).1]; exact hj⟩
/-- a list of numbers in new memory, or nil -/
def RowQ (l : List Int) (w : World) (v : Value) (w' : World) : Prop :=
  (l = [] ∧ v = .slice none 0 0) ∨ ∃ b cap rest, v = .slice (some ⟨b, 0, none⟩) l.length cap ∧ Grow 1 l.length (flatI l) cap rest ∧ w.heap.size ≤ b ∧ w'.heap[b]? = some (.cells ⟨flatI l ++ rest⟩ 3 (0, 0))
theorem RowQ.fr {l : List Int} {w w' : World} {v : Value} (h : RowQ l w v w') : ∃ A cap, v = .slice A l.length cap ∧ Fr w w' A 1 (l.map inE) := by
  rcases h with ⟨rfl, h⟩ | ⟨b, cap, rest, h1, h2, h3, h4⟩
  · exact ⟨none, 0, h, Fr.nil⟩
  · exact ⟨_, cap, h1, fr_rows h3 (in_len l) h4⟩
end R23
end Go.Proofs

set_option linter.unusedSectionVars false
set_option linter.unusedVariables false
set_option linter.unusedSimpArgs false
namespace Go.Proofs
open Go.RowKit Go.Kin Go.Kin.St Go.Kin.Ct
open R22
namespace R23
/-- an Uncertain, as it lies -/
structure Un where
  n : Int
  A : Option Addr
  cap : Nat
  L : List Lk
  B : Option Addr
  cab : Nat
  C : List Lk
@[reducible] def Un.v (u : Un) : List Value := [.int .i64 u.n, .slice u.A u.L.length u.cap, .slice u.B u.C.length u.cab]
structure Un.In (u : Un) (w : World) : Prop where
  l : Kin.At w u.A 4 (u.L.map lkE)
  c : Kin.At w u.B 4 (u.C.map lkE)
theorem Un.In.later {u : Un} {w w' : World} (h : u.In w) (k : Below w.heap.size w w') : u.In w' := ⟨h.l.later k, h.c.later k⟩
theorem Un.In.sat {u : Un} {w W : World} {J : (Nat → Prop) → World → Prop} {mem : List (Nat × Obj)} (h : u.In w) (hm : SatW w (base w) J mem W) : u.In W := ⟨h.l.sat hm, h.c.sat hm⟩
/-- what `into` answers -/
def intoI (C : List Lk) (p : Int) : Int := match into C p with | some i => i | none => -1
theorem intoI_some {C : List Lk} {p : Int} {i : Nat} (h : into C p = some i) : intoI C p = i := by unfold intoI; rw [h]
theorem intoI_none {C : List Lk} {p : Int} (h : into C p = none) : intoI C p = -1 := by unfold intoI; rw [h]
theorem into_drop {C : List Lk} {p : Int} : ∀ k, (∀ x ∈ C.take k, x.to ≠ p) → into C p = (into (C.drop k) p).map (· + k) := by
  induction C with
  | nil => intro k _; simp [into]
  | cons y C ih =>
    intro k hk
    cases k with
    | zero => simp
    | succ k =>
      have h1 : y.to ≠ p := hk y (by simp)
      have h2 := ih k fun x hx => hk x (by simp [hx])
      rw [into, if_neg h1, h2, List.drop_succ_cons, Option.map_map]
      congr 1
theorem into_at {C : List Lk} {p : Int} {k : Nat} {x : Lk} (hk : ∀ x ∈ C.take k, x.to ≠ p) (hx : C[k]? = some x) (hp : x.to = p) : into C p = some k := by
  rw [into_drop k hk]
  obtain ⟨hlt, he⟩ := List.getElem?_eq_some_iff.1 hx
  rw [List.drop_eq_getElem_cons hlt, into, he, if_pos hp]
  simp
theorem into_no {C : List Lk} {p : Int} (h : ∀ x ∈ C, x.to ≠ p) : into C p = none := by
  have := into_drop (C := C) (p := p) C.length (by rw [List.take_length]; exact h)
  rw [List.drop_length] at this
  exact this
theorem into_calls (u : Un) (p : Int) (w : World) (hA : u.In w) (hl : u.C.length ≤ 9223372036854775807) :
    Calls Try.prog 93 ⟨[.agg ⟨u.v⟩, .int .i64 p]⟩ w fun e w' => e = .returned (.int .i64 (intoI u.C p)) ∧ Below w.heap.size w w' := by
  obtain ⟨n, A, cap, L, B, cab, C⟩ := u
  have hB := hA.c
  simp only at hB hl ⊢
  refine fun_enter Try.func93 rfl Try.ntmps93 rfl rfl (satW_nil w) ?_
  repeat (first | refine l_val rfl rfl (by first | exact pureEval_ok rfl  | fail) ?_ | refine l_nil ?_ | refine c_region ?_ | refine c_seq ?_ | refine x_then ?_ | refine r_box rfl rfl rfl rfl (fun _ => ?_) | refine c_block ?_  | fail)
  rename_i b
  refine c_loop (ι := Nat) (fun k => k ≤ C.length ∧ ∀ x ∈ C.take k, x.to ≠ p) (fun k => [(1, .int .i64 p), (2, .pointer (some ⟨b, 0, none⟩)), (5, .int .i64 k)]) (fun _ => [(b, .cells ⟨[.int .i64 n, .slice A L.length cap, .slice B C.length cab]⟩ 24 (0, 0))]) (fun k => C.length - k) 0 ⟨by omega, by simp⟩ (by repeat (first | exact EnvSub.nil | refine EnvSub.cons rfl (by first | rfl | (congr 1; done) | (exact congrArg (Value.int _) (by omega)) | (simp; done)) ?_)) (by repeat (first | exact MSub.nil | refine MSub.keep (by first | rfl | assumption) ?_ | refine MSub.drop ?_ | exact MSub.refl _)) ?_
  rintro k ⟨hk, hF⟩
  by_cases hlt : k < C.length
  · obtain ⟨x, hx⟩ : ∃ x, C[k]? = some x := ⟨_, List.getElem?_eq_getElem hlt⟩
    obtain ⟨b', o, rfl, hc⟩ := hB k (lkE x) (by simp [hx])
    have he := ext_of hc
    by_cases hp : x.to = p
    · repeat (first | refine l_val rfl rfl (by first | exact pureEval_ok rfl | exact v_load rfl (by repeat (first | exact List.Mem.head _ | apply List.Mem.tail)) rfl (by rfl) | exact v_load_ext rfl (by assumption) rfl (by rfl) | exact v_index rfl rfl rfl rfl (by omega) (by omega) (by with_reducible first | exact idx4 _ _ _   | fail)  | fail) ?_ | refine l_nil ?_ | refine c_region ?_ | refine c_seq ?_ | refine x_then ?_ | refine c_dec_t rfl (by first | omega  | fail) ?_ | refine c_block ?_ | refine c_skip ?_ | refine c_ret ?_ | refine x_then_ret ?_ | refine x_block_ret ?_  | fail)
      exact x_ret rfl rfl (by repeat (first | exact Res.nil | (apply Res.tmp; rfl) | (apply Res.cell; rfl; exact (by repeat (first | exact List.Mem.head _ | apply List.Mem.tail)); rfl; rfl))) rfl (fun W hW => ⟨by rw [intoI_some (into_at hF hx hp)], hW.below⟩)
    · repeat (first | refine l_val rfl rfl (by first | exact v_add rfl rfl (by omega) (by omega) | exact pureEval_ok rfl | exact v_load rfl (by repeat (first | exact List.Mem.head _ | apply List.Mem.tail)) rfl (by rfl) | exact v_load_ext rfl (by assumption) rfl (by rfl) | exact v_index rfl rfl rfl rfl (by omega) (by omega) (by with_reducible first | exact idx4 _ _ _   | fail)  | fail) ?_ | refine l_nil ?_ | refine c_region ?_ | refine c_seq ?_ | refine x_then ?_ | refine c_dec_t rfl (by first | omega  | fail) ?_ | refine c_dec_f rfl (by first | omega  | fail) ?_ | refine c_block ?_ | refine c_skip ?_ | refine x_block ?_  | fail)
      refine x_back (k + 1) ⟨hlt, fun y hy => ?_⟩ (by omega) (by repeat (first | exact EnvSub.nil | refine EnvSub.cons rfl (by first | rfl | (congr 1; done) | (exact congrArg (Value.int _) (by omega)) | (simp; done)) ?_)) (by repeat (first | exact MSub.nil | refine MSub.keep (by first | rfl | assumption) ?_ | refine MSub.drop ?_ | exact MSub.refl _))
      rw [List.take_add_one, hx] at hy
      rcases List.mem_append.1 hy with h | h
      · exact hF y h
      · simp only [Option.toList_some, List.mem_singleton] at h
        rw [h]; exact hp
  · have hkl : k = C.length := by omega
    subst hkl
    rw [List.take_length] at hF
    repeat (first | refine l_val rfl rfl (by first | exact pureEval_ok rfl | exact v_load rfl (by repeat (first | exact List.Mem.head _ | apply List.Mem.tail)) rfl (by rfl)  | fail) ?_ | refine l_nil ?_ | refine c_region ?_ | refine c_seq ?_ | refine x_then ?_ | refine c_dec_f rfl (by first | omega  | fail) ?_ | refine c_ret ?_ | refine c_exit ?_ | refine x_then_exit ?_ | refine x_block_same ?_  | fail)
    exact x_ret rfl rfl (by repeat (first | exact Res.nil | (apply Res.tmp; rfl) | (apply Res.cell; rfl; exact (by repeat (first | exact List.Mem.head _ | apply List.Mem.tail)); rfl; rfl))) rfl (fun W hW => ⟨by rw [intoI_none (into_no hF)], hW.below⟩)
/-- the called links are right, one by one -/
def Ends (n : Int) (C : List Lk) : Prop := ∀ i x, C[i]? = some x → Cal n x ∧ into C x.to = some i
noncomputable instance (n : Int) (C : List Lk) : Decidable (Ends n C) := Classical.propDecidable _
set_option maxRecDepth 100000 in
set_option maxHeartbeats 40000000 in
theorem ends_calls (u : Un) (w : World) (hA : u.In w) (hl : u.C.length ≤ 1000) :
    Calls Try.prog 72 ⟨[.agg ⟨u.v⟩]⟩ w fun e w' => e = .returned (.bool (decide (Ends u.n u.C))) ∧ Below w.heap.size w w' := by
  have hin : ∀ (p : Int) (mem : List (Nat × Obj)) (W : World), SatW w (base w) noJ mem W → Calls Try.prog 93 ⟨[.agg ⟨u.v⟩, .int .i64 p]⟩ W fun e w' => e = .returned (.int .i64 (intoI u.C p)) ∧ Below W.heap.size W w' := fun p mem W hW => into_calls u p W (hA.sat hW) (by omega)
  have hB := hA.c
  obtain ⟨n, A, cap, L, B, cab, C⟩ := u
  simp only at hB hl hin ⊢
  refine fun_enter Try.func72 rfl Try.ntmps72 rfl rfl (satW_nil w) ?_
  repeat (first | refine l_val rfl rfl (by first | exact pureEval_ok rfl  | fail) ?_ | refine l_nil ?_ | refine c_region ?_ | refine c_seq ?_ | refine x_then ?_ | refine r_box rfl rfl rfl rfl (fun _ => ?_) | refine c_block ?_  | fail)
  rename_i b
  refine c_loop (ι := Nat) (fun k => k ≤ C.length ∧ ∀ i x, i < k → C[i]? = some x → Cal n x ∧ into C x.to = some i) (fun k => [(1, .pointer (some ⟨b, 0, none⟩)), (2, .bool false), (3, .int .i64 k)]) (fun _ => [(b, .cells ⟨[.int .i64 n, .slice A L.length cap, .slice B C.length cab]⟩ 24 (0, 0))]) (fun k => C.length - k) 0 ⟨by omega, fun i x hi => by omega⟩ (by repeat (first | exact EnvSub.nil | refine EnvSub.cons rfl (by first | rfl | (congr 1; done) | (exact congrArg (Value.int _) (by omega)) | (simp; done)) ?_)) (by repeat (first | exact MSub.nil | refine MSub.keep (by first | rfl | assumption) ?_ | refine MSub.drop ?_ | exact MSub.refl _)) ?_
  rintro k ⟨hk, hF⟩
  by_cases hlt : k < C.length
  · obtain ⟨x, hx⟩ : ∃ x, C[k]? = some x := ⟨_, List.getElem?_eq_getElem hlt⟩
    obtain ⟨b', o, rfl, hq⟩ := hB k (lkE x) (by simp [hx])
    have he := ext_of hq
    by_cases hc : Cal n x
    · have hcc := hc
      unfold Cal at hcc
      obtain ⟨c1, c2, c3, c4, c5, c6, c7, c8⟩ := hcc
      repeat (first | refine l_val rfl rfl (by first | exact pureEval_ok rfl | exact v_load rfl (by repeat (first | exact List.Mem.head _ | apply List.Mem.tail)) rfl (by rfl) | exact v_load_ext0 rfl (by assumption) rfl (by rfl) | exact v_index rfl rfl rfl rfl (by omega) (by omega) (by with_reducible first | exact idx4 _ _ _   | fail)  | fail) ?_ | refine l_nil ?_ | refine c_region ?_ | refine c_seq ?_ | refine x_then ?_ | refine r_alloc rfl rfl rfl (by first | exact aggL  | fail) (fun _ => ?_) | refine r_store rfl rfl rfl rfl rfl rfl rfl (by repeat (first | exact Upd.head | apply Upd.tail)) (by rfl) ?_ | refine c_dec_t rfl (by first | omega  | fail) ?_ | refine c_dec_f rfl (by first | omega  | fail) ?_ | refine c_block ?_ | refine c_skip ?_ | refine l_dec_f rfl rfl rfl rfl rfl (by first | omega  | fail) ?_  | fail)
      refine r_call rfl rfl rfl (fun W hW => hin x.to _ W hW) ?_
      by_cases hi : into C x.to = some k
      · rw [intoI_some hi]
        repeat (first | refine l_val rfl rfl (by first | exact v_add rfl rfl (by omega) (by omega) | exact pureEval_ok rfl  | fail) ?_ | refine l_nil ?_ | refine c_region ?_ | refine c_seq ?_ | refine x_then ?_ | refine c_dec_f rfl (by first | omega  | fail) ?_ | refine c_skip ?_ | refine x_block ?_  | fail)
        refine x_back (k + 1) ⟨hlt, fun i y hi2 hy => ?_⟩ (by omega) (by repeat (first | exact EnvSub.nil | refine EnvSub.cons rfl (by first | rfl | (congr 1; done) | (exact congrArg (Value.int _) (by omega)) | (simp; done)) ?_)) (by repeat (first | exact MSub.nil | refine MSub.keep (by first | rfl | assumption) ?_ | refine MSub.drop ?_ | exact MSub.refl _))
        by_cases e : i = k
        · subst e
          rw [hx] at hy
          cases hy
          exact ⟨hc, hi⟩
        · exact hF i y (by omega) hy
      · have hne : intoI C x.to ≠ k := fun h => by
          unfold intoI at h
          cases hj : into C x.to with
          | none => rw [hj] at h; simp only at h; omega
          | some j => rw [hj] at h hi; simp only at h; exact hi (by congr 1; omega)
        have hno : ¬ Ends n C := fun h => hi (h k x hx).2
        repeat (first | refine l_val rfl rfl (by first | exact pureEval_ok rfl  | fail) ?_ | refine l_nil ?_ | refine c_region ?_ | refine c_seq ?_ | refine x_then ?_ | refine c_dec_t rfl (by first | omega  | fail) ?_ | refine c_ret ?_ | refine x_then_ret ?_ | refine x_block_ret ?_  | fail)
        exact x_ret rfl rfl (by repeat (first | exact Res.nil | (apply Res.tmp; rfl) | (apply Res.cell; rfl; exact (by repeat (first | exact List.Mem.head _ | apply List.Mem.tail)); rfl; rfl))) rfl (fun W hW => ⟨by rw [decide_eq_false hno], hW.below⟩)
    · have hno : ¬ Ends n C := fun h => hc (h k x hx).1
      repeat' (first | refine l_val rfl rfl (by first | exact pureEval_ok rfl | exact v_load rfl (by repeat (first | exact List.Mem.head _ | apply List.Mem.tail)) rfl (by rfl) | exact v_load_ext0 rfl (by assumption) rfl (by rfl) | exact v_index rfl rfl rfl rfl (by omega) (by omega) (by with_reducible first | exact idx4 _ _ _   | fail)  | fail) ?_ | refine l_nil ?_ | refine c_region ?_ | refine c_seq ?_ | refine x_then ?_ | refine l_skip rfl rfl ?_ | refine r_alloc rfl rfl rfl (by first | exact aggL  | fail) (fun _ => ?_) | refine r_store rfl rfl rfl rfl rfl rfl rfl (by repeat (first | exact Upd.head | apply Upd.tail)) (by rfl) ?_ | refine c_true rfl ?_ | refine c_dec_t rfl (by first | omega  | fail) ?_ | refine c_block ?_ | refine c_skip ?_ | refine c_ret ?_ | refine x_then_ret ?_ | refine x_block_ret ?_ | refine l_dec rfl rfl rfl rfl rfl (fun _ => ?_) (fun _ => ?_) | refine c_dec rfl (fun _ => ?_) (fun _ => ?_)  | fail)
      all_goals first
        | exact x_ret rfl rfl (by repeat (first | exact Res.nil | (apply Res.tmp; rfl) | (apply Res.cell; rfl; exact (by repeat (first | exact List.Mem.head _ | apply List.Mem.tail)); rfl; rfl))) rfl (fun W hW => ⟨by rw [decide_eq_false hno], hW.below⟩)
        | exact absurd (show Cal n x by unfold Cal; omega) hc
  · have hyes : Ends n C := fun i x hx => hF i x (by have := (List.getElem?_eq_some_iff.1 hx).1; omega) hx
    repeat (first | refine l_val rfl rfl (by first | exact pureEval_ok rfl | exact v_load rfl (by repeat (first | exact List.Mem.head _ | apply List.Mem.tail)) rfl (by rfl)  | fail) ?_ | refine l_nil ?_ | refine c_region ?_ | refine c_seq ?_ | refine x_then ?_ | refine c_dec_f rfl (by first | omega  | fail) ?_ | refine c_ret ?_ | refine c_exit ?_ | refine x_then_exit ?_ | refine x_block_same ?_  | fail)
    exact x_ret rfl rfl (by repeat (first | exact Res.nil | (apply Res.tmp; rfl) | (apply Res.cell; rfl; exact (by repeat (first | exact List.Mem.head _ | apply List.Mem.tail)); rfl; rfl))) rfl (fun W hW => ⟨by rw [decide_eq_true hyes], hW.below⟩)
/-! ## Chain -/
theorem climb_snoc {C : List Lk} : ∀ {j : Nat} {p : Int} {i : Nat}, (climb C j p).1.length = j → into C (climb C j p).2 = some i → climb C (j + 1) p = ((climb C j p).1 ++ [i], frm C i)
  | 0, p, i, _, h => climb_some (show into C p = some i from h) 0
  | j + 1, p, i, hl, h => by
    cases hp : into C p with
    | none => rw [climb_none hp] at hl; simp at hl
    | some k =>
      rw [climb_some hp] at hl h
      rw [climb_some hp (j + 1), climb_snoc (j := j) (by simpa using hl) h, climb_some hp j]
      rfl
/-- the links to a point after so many steps, the one at the root first -/
def outC (C : List Lk) (j : Nat) (p : Int) : List Int := (climb C j p).1.reverse.map fun i : Nat => (i : Int)
theorem outC_len {C : List Lk} {j : Nat} {p : Int} (h : (climb C j p).1.length = j) : (outC C j p).length = j := by unfold outC; rw [List.length_map, List.length_reverse, h]
/-- what Chain answers -/
def ChainQ (n : Nat) (C : List Lk) (p : Int) (w : World) (e : Ending) (w' : World) : Prop :=
  ∃ j b cap rest, j ≤ n + 1 ∧ (climb C j p).1.length = j ∧ (into C (climb C j p).2 = none ∨ j = n + 1) ∧ e = .returned (.tuple ⟨[.slice (some ⟨b, 0, none⟩) j cap, .int .i64 (climb C j p).2, .bool (decide (j ≤ n))]⟩) ∧
    Grow 1 j (flatI (outC C j p)) cap rest ∧ Below w.heap.size w w' ∧ w.heap.size ≤ b ∧ w'.heap[b]? = some (.cells ⟨flatI (outC C j p) ++ rest⟩ 3 (0, 0))
structure CS where
  j : Nat
  b : Nat
  c : Nat
  r : List Value
set_option maxRecDepth 100000 in
set_option maxHeartbeats 40000000 in
theorem Chain_calls (u : Un) (N : Nat) (p : Int) (w : World) (hn : u.n = N) (hN : N ≤ 64) (hA : u.In w) (hl : u.C.length ≤ 1000) :
    Calls Try.prog 73 ⟨[.agg ⟨u.v⟩, .int .i64 p]⟩ w (ChainQ N u.C p w) := by
  have hin : ∀ (p : Int) (mem : List (Nat × Obj)) (W : World), SatW w (base w) noJ mem W → Calls Try.prog 93 ⟨[.agg ⟨u.v⟩, .int .i64 p]⟩ W fun e w' => e = .returned (.int .i64 (intoI u.C p)) ∧ Below W.heap.size W w' := fun p mem W hW => into_calls u p W (hA.sat hW) (by omega)
  have hB := hA.c
  obtain ⟨n, A, cap, L, B, cab, C⟩ := u
  simp only at hB hl hin hn ⊢
  subst hn
  refine fun_enter Try.func73 rfl Try.ntmps73 rfl rfl (satW_nil w) ?_
  repeat (first | refine l_val rfl rfl (by first | exact pureEval_ok rfl | exact v_load rfl (by repeat (first | exact List.Mem.head _ | apply List.Mem.tail)) rfl (by rfl)  | fail) ?_ | refine l_nil ?_ | refine c_region ?_ | refine c_seq ?_ | refine x_then ?_ | refine r_box rfl rfl rfl rfl (fun _ => ?_) | refine r_buildSlice rfl rfl rfl rfl rfl rfl (by rfl) (fun _ => ?_)  | fail)
  refine r_call rfl rfl rfl (fun W hW => hin p _ W hW) ?_
  repeat (first | refine l_val rfl rfl (by first | exact pureEval_ok rfl  | fail) ?_ | refine l_nil ?_ | refine c_seq ?_ | refine x_then ?_ | refine c_block ?_  | fail)
  rename_i b b0
  refine c_loop (ι := CS) (fun s => s.j ≤ N + 1 ∧ (climb C s.j p).1.length = s.j ∧ Grow 1 s.j (flatI (outC C s.j p)) s.c s.r) (fun s => [(1, .int .i64 (climb C s.j p).2), (2, .pointer (some ⟨b, 0, none⟩)), (4, .slice none 0 0), (5, .int .i64 0), (6, .bool false), (7, .slice (some ⟨s.b, 0, none⟩) s.j s.c), (8, .int .i64 (intoI C (climb C s.j p).2))])
    (fun s => [(s.b, .cells ⟨flatI (outC C s.j p) ++ s.r⟩ 3 (0, 0)), (b, .cells ⟨[.int .i64 N, .slice A L.length cap, .slice B C.length cab]⟩ 24 (0, 0))]) (fun s => N + 1 - s.j) ⟨0, b0, 0, []⟩ ⟨Nat.zero_le _, rfl, ⟨rfl, rfl, Nat.le_refl _, (show (0 : Nat) ≤ maxLen by decide)⟩⟩ (by repeat (first | exact EnvSub.nil | refine EnvSub.cons rfl (by first | rfl | (congr 1; done) | (exact congrArg (Value.int _) (by omega)) | (simp; done)) ?_)) (by repeat (first | exact MSub.nil | refine MSub.keep (by first | rfl | assumption) ?_ | refine MSub.drop ?_ | exact MSub.refl _)) ?_
  rintro ⟨j, bo, co, ro⟩ ⟨hj, hcl, hg⟩
  simp only at hj hcl hg ⊢
  cases hi : into C (climb C j p).2 with
  | none =>
    rw [intoI_none hi]
    repeat (first | refine l_val rfl rfl (by first | exact pureEval_ok rfl  | fail) ?_ | refine l_nil ?_ | refine c_region ?_ | refine c_seq ?_ | refine x_then ?_ | refine l_skip rfl rfl ?_ | refine c_false rfl ?_ | refine c_ret ?_ | refine c_exit ?_ | refine x_then_exit ?_ | refine x_block_same ?_ | refine c_reads rfl (by decide +kernel) ?_ | refine q_val rfl rfl (by first | exact pureEval_ok rfl | exact v_load rfl (by repeat (first | exact List.Mem.head _ | apply List.Mem.tail)) rfl (by rfl)  | fail) ?_ | refine q_nil ?_  | fail)
    exact x_ret rfl rfl (by repeat (first | exact Res.nil | (apply Res.tmp; rfl) | (apply Res.cell; rfl; exact (by repeat (first | exact List.Mem.head _ | apply List.Mem.tail)); rfl; rfl))) rfl (fun W hW => ⟨j, bo, co, ro, hj, hcl, .inl hi, by first | rfl | (congr 1; done) | (simp; done), hg, hW.below, Nat.le_of_not_lt (hW.own (bo, _) (by repeat (first | exact List.Mem.head _ | apply List.Mem.tail))).1, (hW.own (bo, _) (by repeat (first | exact List.Mem.head _ | apply List.Mem.tail))).2⟩)
  | some i =>
    rw [intoI_some hi]
    by_cases hjn : j ≤ N
    · have hci := into_lt hi
      obtain ⟨x, hx, -⟩ := into_some hi
      obtain ⟨b', o, rfl, hc⟩ := hB i (lkE x) (by simp [hx])
      have he := ext_of hc
      have hf : frm C i = x.fr := by unfold frm; rw [hx]
      have hsn := climb_snoc hcl hi
      have hout : flatI (outC C (j + 1) p) = [.int .i64 (i : Int)] ++ flatI (outC C j p) := by
        unfold outC; rw [hsn, List.reverse_append, List.map_append, flatI_app]; rfl
      repeat (first | refine l_val rfl rfl (by first | exact pureEval_ok rfl | exact v_load rfl (by repeat (first | exact List.Mem.head _ | apply List.Mem.tail)) rfl (by rfl)  | fail) ?_ | refine l_nil ?_ | refine c_region ?_ | refine c_seq ?_ | refine x_then ?_ | refine r_buildSlice rfl rfl rfl rfl rfl rfl (by rfl) (fun _ => ?_) | refine c_dec_t rfl (by first | omega  | fail) ?_ | refine c_block ?_ | refine c_skip ?_  | fail)
      refine r_append (n := 1) (xs := [.int .i64 (i : Int)]) (rest := []) (m := j) (ys := flatI (outC C j p)) rfl rfl rfl rfl rfl rfl (news_pre (by repeat (first | exact List.Mem.head _ | apply List.Mem.tail))) (by repeat (first | exact Rem.head | apply Rem.tail)) ⟨rfl, rfl, Nat.le_refl _, (show (1 : Nat) ≤ maxLen by decide)⟩ (by rw [flatI_len, outC_len hcl]) (flatI_one _) (by decide) (by omega) (by unfold maxLen; omega) (fun b7 c7 r7 hg7 => ?_)
      rw [← hout] at hg7 ⊢
      rw [Nat.add_comm 1 j] at hg7 ⊢
      repeat (first | refine l_val rfl rfl (by first | exact pureEval_ok rfl | exact v_load rfl (by repeat (first | exact List.Mem.head _ | apply List.Mem.tail)) rfl (by rfl) | exact v_load_ext0 rfl (by assumption) rfl (by rfl) | exact v_index rfl rfl rfl rfl (by omega) (by omega) (by with_reducible first | exact idx4 _ _ _   | fail)  | fail) ?_ | refine l_nil ?_ | refine c_region ?_ | refine c_seq ?_ | refine x_then ?_  | fail)
      refine r_call rfl rfl rfl (fun W hW => hin x.fr _ W hW) ?_
      rw [← hf, show frm C i = (climb C (j + 1) p).2 by rw [hsn]]
      repeat (first | refine l_val rfl rfl (by first | exact pureEval_ok rfl  | fail) ?_ | refine l_nil ?_ | refine x_block ?_  | fail)
      exact x_back ⟨j + 1, b7, c7, r7⟩ ⟨by simp only; omega, by rw [hsn, List.length_append, hcl]; rfl, hg7⟩ (by simp only; omega) (by repeat (first | exact EnvSub.nil | refine EnvSub.cons rfl (by first | rfl | (congr 1; done) | (exact congrArg (Value.int _) (by omega)) | (simp; done)) ?_)) (by repeat (first | exact MSub.nil | refine MSub.keep (by first | rfl | assumption) ?_ | refine MSub.drop ?_ | exact MSub.refl _))
    · have hje : j = N + 1 := by omega
      repeat (first | refine l_val rfl rfl (by first | exact pureEval_ok rfl | exact v_load rfl (by repeat (first | exact List.Mem.head _ | apply List.Mem.tail)) rfl (by rfl)  | fail) ?_ | refine l_nil ?_ | refine c_region ?_ | refine c_seq ?_ | refine x_then ?_ | refine c_dec_f rfl (by first | omega  | fail) ?_ | refine c_ret ?_ | refine c_exit ?_ | refine x_then_exit ?_ | refine x_block_same ?_ | refine c_reads rfl (by decide +kernel) ?_ | refine q_val rfl rfl (by first | exact pureEval_ok rfl | exact v_load rfl (by repeat (first | exact List.Mem.head _ | apply List.Mem.tail)) rfl (by rfl)  | fail) ?_ | refine q_nil ?_  | fail)
      exact x_ret rfl rfl (by repeat (first | exact Res.nil | (apply Res.tmp; rfl) | (apply Res.cell; rfl; exact (by repeat (first | exact List.Mem.head _ | apply List.Mem.tail)); rfl; rfl))) rfl (fun W hW => ⟨j, bo, co, ro, hj, hcl, .inr hje, by first | rfl | (congr 1; done) | (simp; done), hg, hW.below, Nat.le_of_not_lt (hW.own (bo, _) (by repeat (first | exact List.Mem.head _ | apply List.Mem.tail))).1, (hW.own (bo, _) (by repeat (first | exact List.Mem.head _ | apply List.Mem.tail))).2⟩)
end R23
end Go.Proofs

/- Rows in new memory. (Generic; begun as collate's.) -/
import Derived.Test.YtnmbglemgkopaaaTy
import Derived.Test.YtnmbglemgkopaaaEng31
import Derived.Test.YtnmbglemgkopaaaCtSol
import Derived.Test.YtnmbglemgkopaaaStMts
set_option linter.unusedSectionVars false
set_option linter.unusedVariables false
set_option linter.unusedSimpArgs false
namespace Go.Proofs
open Go.RowKit Go.Kin
namespace R23
def inE (x : Int) : List Value := [.int .i64 x]
/-- rows in memory that is new -/
structure Fr (w w' : World) (A : Option Addr) (sz : Nat) (rows : List (List Value)) : Prop where
  at' : Kin.At w' A sz rows
  new : ∀ a, A = some a → rows ≠ [] → w.heap.size ≤ a.block
theorem Fr.nil {w w' : World} {A : Option Addr} {sz : Nat} : Fr w w' A sz [] := ⟨fun i cs h => by simp at h, fun _ _ h => absurd rfl h⟩
theorem SatW.lts {w0 : World} {D : Nat → Prop} {J : (Nat → Prop) → World → Prop} {mem : List (Nat × Obj)} {W : World} (h : SatW w0 D J mem W) : ∀ k ∈ mem.map (·.1), k < W.heap.size := fun k hk => by
  obtain ⟨p, hp, rfl⟩ := List.mem_map.1 hk
  exact h.lt hp
def flatI (l : List Int) : List Value := (l.map inE).flatten
theorem flatI_len (l : List Int) : (flatI l).length = l.length * 1 := by
  induction l with
  | nil => rfl
  | cons x l ih => unfold flatI at ih ⊢; rw [List.map_cons, List.flatten_cons, List.length_append, ih, List.length_cons]; show 1 + _ = _; omega
theorem flatI_map : ∀ l : List Int, flatI l = l.map fun x => Value.int .i64 x
  | [] => rfl
  | x :: l => congrArg (List.cons (Value.int .i64 x)) (flatI_map l)
theorem flatI_app (l m : List Int) : flatI (l ++ m) = flatI l ++ flatI m := by unfold flatI; rw [List.map_append, List.flatten_append]
theorem flatI_snoc (l : List Int) (x : Int) : flatI (l ++ [x]) = flatI l ++ [.int .i64 x] := flatI_app l [x]
theorem flatI_one (l : List Int) : allOne (flatI l) = true := by
  induction l with
  | nil => rfl
  | cons x l ih => exact ih
theorem flatI_get {l : List Int} {i : Nat} {x : Int} (h : l[i]? = some x) {r : List Value} : (flatI l ++ r)[i]? = some (.int .i64 x) := by
  rw [List.getElem?_append_left (by rw [flatI_len]; have := (List.getElem?_eq_some_iff.1 h).1; omega), flatI_map, List.getElem?_map, h]; rfl
theorem in_len (l : List Int) : ∀ r ∈ l.map inE, r.length = 1 := fun r hr => by obtain ⟨x, _, rfl⟩ := List.mem_map.1 hr; rfl
theorem inE_ne (l : List Int) : ∀ r ∈ l.map inE, r ≠ [] := fun r hr => by obtain ⟨x, _, rfl⟩ := List.mem_map.1 hr; simp [inE]
theorem fr_rows {w w' : World} {b : Nat} {sz : Nat} {rows : List (List Value)} {rest : List Value} {T : TypeId} (hb : w.heap.size ≤ b) (hl : ∀ r ∈ rows, r.length = sz) (h : w'.heap[b]? = some (.cells ⟨rows.flatten ++ rest⟩ T (0, 0))) : Fr w w' (some ⟨b, 0, none⟩) sz rows := by
  have hsat : SatW w' (fun _ => False) noJ [(b, .cells ⟨rows.flatten ++ rest⟩ T (0, 0))] w' :=
    ⟨Same.refl _ _, fun _ h => h.elim, by simp, fun p hp => by rw [List.mem_singleton.1 hp]; exact ⟨id, h⟩, closed_noJ, trivial⟩
  exact ⟨hsat.rows (b := b) (rest := rest) (List.mem_singleton.2 rfl) rfl hl, fun a e _ => by cases e; exact hb⟩
theorem Fr.ar {w w' : World} {A : Option Addr} {sz : Nat} {rows : List (List Value)} (h : Fr w w' A sz rows) (hne : ∀ r ∈ rows, r ≠ []) {ks : List Nat} (hks : ∀ k ∈ ks, k < w.heap.size) : Ar w' (allBut w' ks) A sz rows := fun i r hr => by
  obtain ⟨b, o, e, hc⟩ := h.at' i r hr
  cases r with
  | nil => exact absurd rfl (hne [] (List.mem_of_getElem? hr))
  | cons x cs =>
    have he := ext_of hc
    refine ⟨b, o, e, ⟨⟨he.dom, fun hb => ?_⟩, he.cell⟩⟩
    have h1 := hks b hb
    have h2 := h.new _ e (fun h0 => by rw [h0] at hr; simp at hr)
    have h3 : w.heap.size ≤ b := h2
    omega
theorem news_pre {c : Cx} {mem : List (Nat × Obj)} {b : Nat} {ys rest : List Value} {T' : TypeId} {fr : Nat × Nat} (hm : (b, Obj.cells ⟨ys ++ rest⟩ T' fr) ∈ mem) : News c mem b 0 ys :=
  ⟨fun W hW j v hj => by rw [hW.cellAt hm, Nat.zero_add, List.getElem?_append_left (List.getElem?_eq_some_iff.1 hj).1]; exact hj⟩
/-- a list of numbers in new memory, or nil -/
def RowQ (l : List Int) (w : World) (v : Value) (w' : World) : Prop :=
  (l = [] ∧ v = .slice none 0 0) ∨ ∃ b cap rest, v = .slice (some ⟨b, 0, none⟩) l.length cap ∧ Grow 1 l.length (flatI l) cap rest ∧ w.heap.size ≤ b ∧ w'.heap[b]? = some (.cells ⟨flatI l ++ rest⟩ 3 (0, 0))
theorem RowQ.fr {l : List Int} {w w' : World} {v : Value} (h : RowQ l w v w') : ∃ A cap, v = .slice A l.length cap ∧ Fr w w' A 1 (l.map inE) := by
  rcases h with ⟨rfl, h⟩ | ⟨b, cap, rest, h1, h2, h3, h4⟩
  · exact ⟨none, 0, h, Fr.nil⟩
  · exact ⟨_, cap, h1, fr_rows h3 (in_len l) h4⟩
end R23
end Go.Proofs

set_option linter.unusedSectionVars false
set_option linter.unusedVariables false
set_option linter.unusedSimpArgs false
namespace Go.Proofs
open Go.RowKit Go.Kin Go.Kin.St Go.Kin.Ct
open R22
namespace R23
/-- an Uncertain, as it lies -/
structure Un where
  n : Int
  A : Option Addr
  cap : Nat
  L : List Lk
  B : Option Addr
  cab : Nat
  C : List Lk
@[reducible] def Un.v (u : Un) : List Value := [.int .i64 u.n, .slice u.A u.L.length u.cap, .slice u.B u.C.length u.cab]
structure Un.In (u : Un) (w : World) : Prop where
  l : Kin.At w u.A 4 (u.L.map lkE)
  c : Kin.At w u.B 4 (u.C.map lkE)
theorem Un.In.later {u : Un} {w w' : World} (h : u.In w) (k : Below w.heap.size w w') : u.In w' := ⟨h.l.later k, h.c.later k⟩
theorem Un.In.sat {u : Un} {w W : World} {J : (Nat → Prop) → World → Prop} {mem : List (Nat × Obj)} (h : u.In w) (hm : SatW w (base w) J mem W) : u.In W := ⟨h.l.sat hm, h.c.sat hm⟩
/-- what `into` answers -/
def intoI (C : List Lk) (p : Int) : Int := match into C p with | some i => i | none => -1
theorem intoI_some {C : List Lk} {p : Int} {i : Nat} (h : into C p = some i) : intoI C p = i := by unfold intoI; rw [h]
theorem intoI_none {C : List Lk} {p : Int} (h : into C p = none) : intoI C p = -1 := by unfold intoI; rw [h]
theorem into_drop {C : List Lk} {p : Int} : ∀ k, (∀ x ∈ C.take k, x.to ≠ p) → into C p = (into (C.drop k) p).map (· + k) := by
  induction C with
  | nil => intro k _; simp [into]
  | cons y C ih =>
    intro k hk
    cases k with
    | zero => simp
    | succ k =>
      have h1 : y.to ≠ p := hk y (by simp)
      have h2 := ih k fun x hx => hk x (by simp [hx])
      rw [into, if_neg h1, h2, List.drop_succ_cons, Option.map_map]
      congr 1
theorem into_at {C : List Lk} {p : Int} {k : Nat} {x : Lk} (hk : ∀ x ∈ C.take k, x.to ≠ p) (hx : C[k]? = some x) (hp : x.to = p) : into C p = some k := by
  rw [into_drop k hk]
  obtain ⟨hlt, he⟩ := List.getElem?_eq_some_iff.1 hx
  rw [List.drop_eq_getElem_cons hlt, into, he, if_pos hp]
  simp
theorem into_no {C : List Lk} {p : Int} (h : ∀ x ∈ C, x.to ≠ p) : into C p = none := by
  have := into_drop (C := C) (p := p) C.length (by rw [List.take_length]; exact h)
  rw [List.drop_length] at this
  exact this
theorem into_calls (u : Un) (p : Int) (w : World) (hA : u.In w) (hl : u.C.length ≤ 9223372036854775807) :
    Calls Try.prog 70 ⟨[.agg ⟨u.v⟩, .int .i64 p]⟩ w fun e w' => e = .returned (.int .i64 (intoI u.C p)) ∧ Below w.heap.size w w' := by
  obtain ⟨n, A, cap, L, B, cab, C⟩ := u
  have hB := hA.c
  simp only at hB hl ⊢
  refine fun_enter Try.func70 rfl Try.ntmps70 rfl rfl (satW_nil w) ?_
  repeat (first | refine l_val rfl rfl (by first | exact pureEval_ok rfl  | fail) ?_ | refine l_nil ?_ | refine c_region ?_ | refine c_seq ?_ | refine x_then ?_ | refine r_box rfl rfl rfl rfl (fun _ => ?_) | refine c_block ?_  | fail)
  rename_i b
  refine c_loop (ι := Nat) (fun k => k ≤ C.length ∧ ∀ x ∈ C.take k, x.to ≠ p) (fun k => [(1, .int .i64 p), (2, .pointer (some ⟨b, 0, none⟩)), (5, .int .i64 k)]) (fun _ => [(b, .cells ⟨[.int .i64 n, .slice A L.length cap, .slice B C.length cab]⟩ 24 (0, 0))]) (fun k => C.length - k) 0 ⟨by omega, by simp⟩ (by repeat (first | exact EnvSub.nil | refine EnvSub.cons rfl (by first | rfl | (congr 1; done) | (exact congrArg (Value.int _) (by omega)) | (simp; done)) ?_)) (by repeat (first | exact MSub.nil | refine MSub.keep (by first | rfl | assumption) ?_ | refine MSub.drop ?_ | exact MSub.refl _)) ?_
  rintro k ⟨hk, hF⟩
  by_cases hlt : k < C.length
  · obtain ⟨x, hx⟩ : ∃ x, C[k]? = some x := ⟨_, List.getElem?_eq_getElem hlt⟩
    obtain ⟨b', o, rfl, hc⟩ := hB k (lkE x) (by simp [hx])
    have he := ext_of hc
    by_cases hp : x.to = p
    · repeat (first | refine l_val rfl rfl (by first | exact pureEval_ok rfl | exact v_load rfl (by repeat (first | exact List.Mem.head _ | apply List.Mem.tail)) rfl (by rfl) | exact v_load_ext rfl (by assumption) rfl (by rfl) | exact v_index rfl rfl rfl rfl (by omega) (by omega) (by with_reducible first | exact idx4 _ _ _   | fail)  | fail) ?_ | refine l_nil ?_ | refine c_region ?_ | refine c_seq ?_ | refine x_then ?_ | refine c_dec_t rfl (by first | omega  | fail) ?_ | refine c_block ?_ | refine c_skip ?_ | refine c_ret ?_ | refine x_then_ret ?_ | refine x_block_ret ?_  | fail)
      exact x_ret rfl rfl (by repeat (first | exact Res.nil | (apply Res.tmp; rfl) | (apply Res.cell; rfl; exact (by repeat (first | exact List.Mem.head _ | apply List.Mem.tail)); rfl; rfl))) rfl (fun W hW => ⟨by rw [intoI_some (into_at hF hx hp)], hW.below⟩)
    · repeat (first | refine l_val rfl rfl (by first | exact v_add rfl rfl (by omega) (by omega) | exact pureEval_ok rfl | exact v_load rfl (by repeat (first | exact List.Mem.head _ | apply List.Mem.tail)) rfl (by rfl) | exact v_load_ext rfl (by assumption) rfl (by rfl) | exact v_index rfl rfl rfl rfl (by omega) (by omega) (by with_reducible first | exact idx4 _ _ _   | fail)  | fail) ?_ | refine l_nil ?_ | refine c_region ?_ | refine c_seq ?_ | refine x_then ?_ | refine c_dec_t rfl (by first | omega  | fail) ?_ | refine c_dec_f rfl (by first | omega  | fail) ?_ | refine c_block ?_ | refine c_skip ?_ | refine x_block ?_  | fail)
      refine x_back (k + 1) ⟨hlt, fun y hy => ?_⟩ (by omega) (by repeat (first | exact EnvSub.nil | refine EnvSub.cons rfl (by first | rfl | (congr 1; done) | (exact congrArg (Value.int _) (by omega)) | (simp; done)) ?_)) (by repeat (first | exact MSub.nil | refine MSub.keep (by first | rfl | assumption) ?_ | refine MSub.drop ?_ | exact MSub.refl _))
      rw [List.take_add_one, hx] at hy
      rcases List.mem_append.1 hy with h | h
      · exact hF y h
      · simp only [Option.toList_some, List.mem_singleton] at h
        rw [h]; exact hp
  · have hkl : k = C.length := by omega
    subst hkl
    rw [List.take_length] at hF
    repeat (first | refine l_val rfl rfl (by first | exact pureEval_ok rfl | exact v_load rfl (by repeat (first | exact List.Mem.head _ | apply List.Mem.tail)) rfl (by rfl)  | fail) ?_ | refine l_nil ?_ | refine c_region ?_ | refine c_seq ?_ | refine x_then ?_ | refine c_dec_f rfl (by first | omega  | fail) ?_ | refine c_ret ?_ | refine c_exit ?_ | refine x_then_exit ?_ | refine x_block_same ?_  | fail)
    exact x_ret rfl rfl (by repeat (first | exact Res.nil | (apply Res.tmp; rfl) | (apply Res.cell; rfl; exact (by repeat (first | exact List.Mem.head _ | apply List.Mem.tail)); rfl; rfl))) rfl (fun W hW => ⟨by rw [intoI_none (into_no hF)], hW.below⟩)
/-- the called links are right, one by one -/
def Ends (n : Int) (C : List Lk) : Prop := ∀ i x, C[i]? = some x → Cal n x ∧ into C x.to = some i
noncomputable instance (n : Int) (C : List Lk) : Decidable (Ends n C) := Classical.propDecidable _
set_option maxRecDepth 100000 in
set_option maxHeartbeats 40000000 in
theorem ends_calls (u : Un) (w : World) (hA : u.In w) (hl : u.C.length ≤ 1000) :
    Calls Try.prog 41 ⟨[.agg ⟨u.v⟩]⟩ w fun e w' => e = .returned (.bool (decide (Ends u.n u.C))) ∧ Below w.heap.size w w' := by
  have hin : ∀ (p : Int) (mem : List (Nat × Obj)) (W : World), SatW w (base w) noJ mem W → Calls Try.prog 70 ⟨[.agg ⟨u.v⟩, .int .i64 p]⟩ W fun e w' => e = .returned (.int .i64 (intoI u.C p)) ∧ Below W.heap.size W w' := fun p mem W hW => into_calls u p W (hA.sat hW) (by omega)
  have hB := hA.c
  obtain ⟨n, A, cap, L, B, cab, C⟩ := u
  simp only at hB hl hin ⊢
  refine fun_enter Try.func41 rfl Try.ntmps41 rfl rfl (satW_nil w) ?_
  repeat (first | refine l_val rfl rfl (by first | exact pureEval_ok rfl  | fail) ?_ | refine l_nil ?_ | refine c_region ?_ | refine c_seq ?_ | refine x_then ?_ | refine r_box rfl rfl rfl rfl (fun _ => ?_) | refine c_block ?_  | fail)
  rename_i b
  refine c_loop (ι := Nat) (fun k => k ≤ C.length ∧ ∀ i x, i < k → C[i]? = some x → Cal n x ∧ into C x.to = some i) (fun k => [(1, .pointer (some ⟨b, 0, none⟩)), (2, .bool false), (3, .int .i64 k)]) (fun _ => [(b, .cells ⟨[.int .i64 n, .slice A L.length cap, .slice B C.length cab]⟩ 24 (0, 0))]) (fun k => C.length - k) 0 ⟨by omega, fun i x hi => by omega⟩ (by repeat (first | exact EnvSub.nil | refine EnvSub.cons rfl (by first | rfl | (congr 1; done) | (exact congrArg (Value.int _) (by omega)) | (simp; done)) ?_)) (by repeat (first | exact MSub.nil | refine MSub.keep (by first | rfl | assumption) ?_ | refine MSub.drop ?_ | exact MSub.refl _)) ?_
  rintro k ⟨hk, hF⟩
  by_cases hlt : k < C.length
  · obtain ⟨x, hx⟩ : ∃ x, C[k]? = some x := ⟨_, List.getElem?_eq_getElem hlt⟩
    obtain ⟨b', o, rfl, hq⟩ := hB k (lkE x) (by simp [hx])
    have he := ext_of hq
    by_cases hc : Cal n x
    · have hcc := hc
      unfold Cal at hcc
      obtain ⟨c1, c2, c3, c4, c5, c6, c7, c8⟩ := hcc
      repeat (first | refine l_val rfl rfl (by first | exact pureEval_ok rfl | exact v_load rfl (by repeat (first | exact List.Mem.head _ | apply List.Mem.tail)) rfl (by rfl) | exact v_load_ext0 rfl (by assumption) rfl (by rfl) | exact v_index rfl rfl rfl rfl (by omega) (by omega) (by with_reducible first | exact idx4 _ _ _   | fail)  | fail) ?_ | refine l_nil ?_ | refine c_region ?_ | refine c_seq ?_ | refine x_then ?_ | refine r_alloc rfl rfl rfl (by first | exact aggL  | fail) (fun _ => ?_) | refine r_store rfl rfl rfl rfl rfl rfl rfl (by repeat (first | exact Upd.head | apply Upd.tail)) (by rfl) ?_ | refine c_dec_t rfl (by first | omega  | fail) ?_ | refine c_dec_f rfl (by first | omega  | fail) ?_ | refine c_block ?_ | refine c_skip ?_ | refine l_dec_f rfl rfl rfl rfl rfl (by first | omega  | fail) ?_  | fail)
      refine r_call rfl rfl rfl (fun W hW => hin x.to _ W hW) ?_
      by_cases hi : into C x.to = some k
      · rw [intoI_some hi]
        repeat (first | refine l_val rfl rfl (by first | exact v_add rfl rfl (by omega) (by omega) | exact pureEval_ok rfl  | fail) ?_ | refine l_nil ?_ | refine c_region ?_ | refine c_seq ?_ | refine x_then ?_ | refine c_dec_f rfl (by first | omega  | fail) ?_ | refine c_skip ?_ | refine x_block ?_  | fail)
        refine x_back (k + 1) ⟨hlt, fun i y hi2 hy => ?_⟩ (by omega) (by repeat (first | exact EnvSub.nil | refine EnvSub.cons rfl (by first | rfl | (congr 1; done) | (exact congrArg (Value.int _) (by omega)) | (simp; done)) ?_)) (by repeat (first | exact MSub.nil | refine MSub.keep (by first | rfl | assumption) ?_ | refine MSub.drop ?_ | exact MSub.refl _))
        by_cases e : i = k
        · subst e
          rw [hx] at hy
          cases hy
          exact ⟨hc, hi⟩
        · exact hF i y (by omega) hy
      · have hne : intoI C x.to ≠ k := fun h => by
          unfold intoI at h
          cases hj : into C x.to with
          | none => rw [hj] at h; simp only at h; omega
          | some j => rw [hj] at h hi; simp only at h; exact hi (by congr 1; omega)
        have hno : ¬ Ends n C := fun h => hi (h k x hx).2
        repeat (first | refine l_val rfl rfl (by first | exact pureEval_ok rfl  | fail) ?_ | refine l_nil ?_ | refine c_region ?_ | refine c_seq ?_ | refine x_then ?_ | refine c_dec_t rfl (by first | omega  | fail) ?_ | refine c_ret ?_ | refine x_then_ret ?_ | refine x_block_ret ?_  | fail)
        exact x_ret rfl rfl (by repeat (first | exact Res.nil | (apply Res.tmp; rfl) | (apply Res.cell; rfl; exact (by repeat (first | exact List.Mem.head _ | apply List.Mem.tail)); rfl; rfl))) rfl (fun W hW => ⟨by rw [decide_eq_false hno], hW.below⟩)
    · have hno : ¬ Ends n C := fun h => hc (h k x hx).1
      repeat' (first | refine l_val rfl rfl (by first | exact pureEval_ok rfl | exact v_load rfl (by repeat (first | exact List.Mem.head _ | apply List.Mem.tail)) rfl (by rfl) | exact v_load_ext0 rfl (by assumption) rfl (by rfl) | exact v_index rfl rfl rfl rfl (by omega) (by omega) (by with_reducible first | exact idx4 _ _ _   | fail)  | fail) ?_ | refine l_nil ?_ | refine c_region ?_ | refine c_seq ?_ | refine x_then ?_ | refine l_skip rfl rfl ?_ | refine r_alloc rfl rfl rfl (by first | exact aggL  | fail) (fun _ => ?_) | refine r_store rfl rfl rfl rfl rfl rfl rfl (by repeat (first | exact Upd.head | apply Upd.tail)) (by rfl) ?_ | refine c_true rfl ?_ | refine c_dec_t rfl (by first | omega  | fail) ?_ | refine c_block ?_ | refine c_skip ?_ | refine c_ret ?_ | refine x_then_ret ?_ | refine x_block_ret ?_ | refine l_dec rfl rfl rfl rfl rfl (fun _ => ?_) (fun _ => ?_) | refine c_dec rfl (fun _ => ?_) (fun _ => ?_)  | fail)
      all_goals first
        | exact x_ret rfl rfl (by repeat (first | exact Res.nil | (apply Res.tmp; rfl) | (apply Res.cell; rfl; exact (by repeat (first | exact List.Mem.head _ | apply List.Mem.tail)); rfl; rfl))) rfl (fun W hW => ⟨by rw [decide_eq_false hno], hW.below⟩)
        | exact absurd (show Cal n x by unfold Cal; omega) hc
  · have hyes : Ends n C := fun i x hx => hF i x (by have := (List.getElem?_eq_some_iff.1 hx).1; omega) hx
    repeat (first | refine l_val rfl rfl (by first | exact pureEval_ok rfl | exact v_load rfl (by repeat (first | exact List.Mem.head _ | apply List.Mem.tail)) rfl (by rfl)  | fail) ?_ | refine l_nil ?_ | refine c_region ?_ | refine c_seq ?_ | refine x_then ?_ | refine c_dec_f rfl (by first | omega  | fail) ?_ | refine c_ret ?_ | refine c_exit ?_ | refine x_then_exit ?_ | refine x_block_same ?_  | fail)
    exact x_ret rfl rfl (by repeat (first | exact Res.nil | (apply Res.tmp; rfl) | (apply Res.cell; rfl; exact (by repeat (first | exact List.Mem.head _ | apply List.Mem.tail)); rfl; rfl))) rfl (fun W hW => ⟨by rw [decide_eq_true hyes], hW.below⟩)
/-! ## Chain -/
theorem climb_snoc {C : List Lk} : ∀ {j : Nat} {p : Int} {i : Nat}, (climb C j p).1.length = j → into C (climb C j p).2 = some i → climb C (j + 1) p = ((climb C j p).1 ++ [i], frm C i)
  | 0, p, i, _, h => climb_some (show into C p = some i from h) 0
  | j + 1, p, i, hl, h => by
    cases hp : into C p with
    | none => rw [climb_none hp] at hl; simp at hl
    | some k =>
      rw [climb_some hp] at hl h
      rw [climb_some hp (j + 1), climb_snoc (j := j) (by simpa using hl) h, climb_some hp j]
      rfl
/-- the links to a point after so many steps, the one at the root first -/
def outC (C : List Lk) (j : Nat) (p : Int) : List Int := (climb C j p).1.reverse.map fun i : Nat => (i : Int)
theorem outC_len {C : List Lk} {j : Nat} {p : Int} (h : (climb C j p).1.length = j) : (outC C j p).length = j := by unfold outC; rw [List.length_map, List.length_reverse, h]
/-- what Chain answers -/
def ChainQ (n : Nat) (C : List Lk) (p : Int) (w : World) (e : Ending) (w' : World) : Prop :=
  ∃ j b cap rest, j ≤ n + 1 ∧ (climb C j p).1.length = j ∧ (into C (climb C j p).2 = none ∨ j = n + 1) ∧ e = .returned (.tuple ⟨[.slice (some ⟨b, 0, none⟩) j cap, .int .i64 (climb C j p).2, .bool (decide (j ≤ n))]⟩) ∧
    Grow 1 j (flatI (outC C j p)) cap rest ∧ Below w.heap.size w w' ∧ w.heap.size ≤ b ∧ w'.heap[b]? = some (.cells ⟨flatI (outC C j p) ++ rest⟩ 3 (0, 0))
structure CS where
  j : Nat
  b : Nat
  c : Nat
  r : List Value
set_option maxRecDepth 100000 in
set_option maxHeartbeats 40000000 in
theorem Chain_calls (u : Un) (N : Nat) (p : Int) (w : World) (hn : u.n = N) (hN : N ≤ 64) (hA : u.In w) (hl : u.C.length ≤ 1000) :
    Calls Try.prog 42 ⟨[.agg ⟨u.v⟩, .int .i64 p]⟩ w (ChainQ N u.C p w) := by
  have hin : ∀ (p : Int) (mem : List (Nat × Obj)) (W : World), SatW w (base w) noJ mem W → Calls Try.prog 70 ⟨[.agg ⟨u.v⟩, .int .i64 p]⟩ W fun e w' => e = .returned (.int .i64 (intoI u.C p)) ∧ Below W.heap.size W w' := fun p mem W hW => into_calls u p W (hA.sat hW) (by omega)
  have hB := hA.c
  obtain ⟨n, A, cap, L, B, cab, C⟩ := u
  simp only at hB hl hin hn ⊢
  subst hn
  refine fun_enter Try.func42 rfl Try.ntmps42 rfl rfl (satW_nil w) ?_
  repeat (first | refine l_val rfl rfl (by first | exact pureEval_ok rfl | exact v_load rfl (by repeat (first | exact List.Mem.head _ | apply List.Mem.tail)) rfl (by rfl)  | fail) ?_ | refine l_nil ?_ | refine c_region ?_ | refine c_seq ?_ | refine x_then ?_ | refine r_box rfl rfl rfl rfl (fun _ => ?_) | refine r_buildSlice rfl rfl rfl rfl rfl rfl (by rfl) (fun _ => ?_)  | fail)
  refine r_call rfl rfl rfl (fun W hW => hin p _ W hW) ?_
  repeat (first | refine l_val rfl rfl (by first | exact pureEval_ok rfl  | fail) ?_ | refine l_nil ?_ | refine c_seq ?_ | refine x_then ?_ | refine c_block ?_  | fail)
  rename_i b b0
  refine c_loop (ι := CS) (fun s => s.j ≤ N + 1 ∧ (climb C s.j p).1.length = s.j ∧ Grow 1 s.j (flatI (outC C s.j p)) s.c s.r) (fun s => [(1, .int .i64 (climb C s.j p).2), (2, .pointer (some ⟨b, 0, none⟩)), (4, .slice none 0 0), (5, .int .i64 0), (6, .bool false), (7, .slice (some ⟨s.b, 0, none⟩) s.j s.c), (8, .int .i64 (intoI C (climb C s.j p).2))])
    (fun s => [(s.b, .cells ⟨flatI (outC C s.j p) ++ s.r⟩ 3 (0, 0)), (b, .cells ⟨[.int .i64 N, .slice A L.length cap, .slice B C.length cab]⟩ 24 (0, 0))]) (fun s => N + 1 - s.j) ⟨0, b0, 0, []⟩ ⟨Nat.zero_le _, rfl, ⟨rfl, rfl, Nat.le_refl _, (show (0 : Nat) ≤ maxLen by decide)⟩⟩ (by repeat (first | exact EnvSub.nil | refine EnvSub.cons rfl (by first | rfl | (congr 1; done) | (exact congrArg (Value.int _) (by omega)) | (simp; done)) ?_)) (by repeat (first | exact MSub.nil | refine MSub.keep (by first | rfl | assumption) ?_ | refine MSub.drop ?_ | exact MSub.refl _)) ?_
  rintro ⟨j, bo, co, ro⟩ ⟨hj, hcl, hg⟩
  simp only at hj hcl hg ⊢
  cases hi : into C (climb C j p).2 with
  | none =>
    rw [intoI_none hi]
    repeat (first | refine l_val rfl rfl (by first | exact pureEval_ok rfl  | fail) ?_ | refine l_nil ?_ | refine c_region ?_ | refine c_seq ?_ | refine x_then ?_ | refine l_skip rfl rfl ?_ | refine c_false rfl ?_ | refine c_ret ?_ | refine c_exit ?_ | refine x_then_exit ?_ | refine x_block_same ?_ | refine c_reads rfl (by decide +kernel) ?_ | refine q_val rfl rfl (by first | exact pureEval_ok rfl | exact v_load rfl (by repeat (first | exact List.Mem.head _ | apply List.Mem.tail)) rfl (by rfl)  | fail) ?_ | refine q_nil ?_  | fail)
    exact x_ret rfl rfl (by repeat (first | exact Res.nil | (apply Res.tmp; rfl) | (apply Res.cell; rfl; exact (by repeat (first | exact List.Mem.head _ | apply List.Mem.tail)); rfl; rfl))) rfl (fun W hW => ⟨j, bo, co, ro, hj, hcl, .inl hi, by first | rfl | (congr 1; done) | (simp; done), hg, hW.below, Nat.le_of_not_lt (hW.own (bo, _) (by repeat (first | exact List.Mem.head _ | apply List.Mem.tail))).1, (hW.own (bo, _) (by repeat (first | exact List.Mem.head _ | apply List.Mem.tail))).2⟩)
  | some i =>
    rw [intoI_some hi]
    by_cases hjn : j ≤ N
    · have hci := into_lt hi
      obtain ⟨x, hx, -⟩ := into_some hi
      obtain ⟨b', o, rfl, hc⟩ := hB i (lkE x) (by simp [hx])
      have he := ext_of hc
      have hf : frm C i = x.fr := by unfold frm; rw [hx]
      have hsn := climb_snoc hcl hi
      have hout : flatI (outC C (j + 1) p) = [.int .i64 (i : Int)] ++ flatI (outC C j p) := by
        unfold outC; rw [hsn, List.reverse_append, List.map_append, flatI_app]; rfl
      repeat (first | refine l_val rfl rfl (by first | exact pureEval_ok rfl | exact v_load rfl (by repeat (first | exact List.Mem.head _ | apply List.Mem.tail)) rfl (by rfl)  | fail) ?_ | refine l_nil ?_ | refine c_region ?_ | refine c_seq ?_ | refine x_then ?_ | refine r_buildSlice rfl rfl rfl rfl rfl rfl (by rfl) (fun _ => ?_) | refine c_dec_t rfl (by first | omega  | fail) ?_ | refine c_block ?_ | refine c_skip ?_  | fail)
      refine r_append (n := 1) (xs := [.int .i64 (i : Int)]) (rest := []) (m := j) (ys := flatI (outC C j p)) rfl rfl rfl rfl rfl rfl (news_pre (by repeat (first | exact List.Mem.head _ | apply List.Mem.tail))) (by repeat (first | exact Rem.head | apply Rem.tail)) ⟨rfl, rfl, Nat.le_refl _, (show (1 : Nat) ≤ maxLen by decide)⟩ (by rw [flatI_len, outC_len hcl]) (flatI_one _) (by decide) (by omega) (by unfold maxLen; omega) (fun b7 c7 r7 hg7 => ?_)
      rw [← hout] at hg7 ⊢
      rw [Nat.add_comm 1 j] at hg7 ⊢
      repeat (first | refine l_val rfl rfl (by first | exact pureEval_ok rfl | exact v_load rfl (by repeat (first | exact List.Mem.head _ | apply List.Mem.tail)) rfl (by rfl) | exact v_load_ext0 rfl (by assumption) rfl (by rfl) | exact v_index rfl rfl rfl rfl (by omega) (by omega) (by with_reducible first | exact idx4 _ _ _   | fail)  | fail) ?_ | refine l_nil ?_ | refine c_region ?_ | refine c_seq ?_ | refine x_then ?_  | fail)
      refine r_call rfl rfl rfl (fun W hW => hin x.fr _ W hW) ?_
      rw [← hf, show frm C i = (climb C (j + 1) p).2 by rw [hsn]]
      repeat (first | refine l_val rfl rfl (by first | exact pureEval_ok rfl  | fail) ?_ | refine l_nil ?_ | refine x_block ?_  | fail)
      exact x_back ⟨j + 1, b7, c7, r7⟩ ⟨by simp only; omega, by rw [hsn, List.length_append, hcl]; rfl, hg7⟩ (by simp only; omega) (by repeat (first | exact EnvSub.nil | refine EnvSub.cons rfl (by first | rfl | (congr 1; done) | (exact congrArg (Value.int _) (by omega)) | (simp; done)) ?_)) (by repeat (first | exact MSub.nil | refine MSub.keep (by first | rfl | assumption) ?_ | refine MSub.drop ?_ | exact MSub.refl _))
    · have hje : j = N + 1 := by omega
      repeat (first | refine l_val rfl rfl (by first | exact pureEval_ok rfl | exact v_load rfl (by repeat (first | exact List.Mem.head _ | apply List.Mem.tail)) rfl (by rfl)  | fail) ?_ | refine l_nil ?_ | refine c_region ?_ | refine c_seq ?_ | refine x_then ?_ | refine c_dec_f rfl (by first | omega  | fail) ?_ | refine c_ret ?_ | refine c_exit ?_ | refine x_then_exit ?_ | refine x_block_same ?_ | refine c_reads rfl (by decide +kernel) ?_ | refine q_val rfl rfl (by first | exact pureEval_ok rfl | exact v_load rfl (by repeat (first | exact List.Mem.head _ | apply List.Mem.tail)) rfl (by rfl)  | fail) ?_ | refine q_nil ?_  | fail)
      exact x_ret rfl rfl (by repeat (first | exact Res.nil | (apply Res.tmp; rfl) | (apply Res.cell; rfl; exact (by repeat (first | exact List.Mem.head _ | apply List.Mem.tail)); rfl; rfl))) rfl (fun W hW => ⟨j, bo, co, ro, hj, hcl, .inr hje, by first | rfl | (congr 1; done) | (simp; done), hg, hW.below, Nat.le_of_not_lt (hW.own (bo, _) (by repeat (first | exact List.Mem.head _ | apply List.Mem.tail))).1, (hW.own (bo, _) (by repeat (first | exact List.Mem.head _ | apply List.Mem.tail))).2⟩)
end R23
end Go.Proofs

set_option linter.unusedSectionVars false
set_option linter.unusedVariables false
set_option linter.unusedSimpArgs false
namespace Go.Proofs
open Go.RowKit Go.Kin Go.Kin.St Go.Kin.Ct
open R22
namespace R23
/-- a chain as Chain hands it back -/
structure ChR (N : Nat) (C : List Lk) (p : Int) where
  j : Nat
  b : Nat
  c : Nat
  r : List Value
  le : j ≤ N + 1
  len : (climb C j p).1.length = j
  stop : into C (climb C j p).2 = none ∨ j = N + 1
  grow : Grow 1 j (flatI (outC C j p)) c r
def ChR.v {N : Nat} {C : List Lk} {p : Int} (s : ChR N C p) : Value := .tuple ⟨[.slice (some ⟨s.b, 0, none⟩) s.j s.c, .int .i64 (climb C s.j p).2, .bool (decide (s.j ≤ N))]⟩
theorem ChainQ.r {N : Nat} {C : List Lk} {p : Int} {w w' : World} {e : Ending} (h : ChainQ N C p w e w') : ∃ i : ChR N C p, e = .returned i.v ∧ Below w.heap.size w w' ∧ w.heap.size ≤ i.b ∧ w'.heap[i.b]? = some (.cells ⟨flatI (outC C i.j p) ++ i.r⟩ 3 (0, 0)) := by
  obtain ⟨j, b, c, r, h1, h2, h3, h4, h5, h6, h7, h8⟩ := h
  exact ⟨⟨j, b, c, r, h1, h2, h3, h5⟩, h4, h6, h7, h8⟩
theorem climb_more {C : List Lk} {f : Nat} {p : Int} (h : (climb C (f + 1) p).1.length = f + 1) : into C (climb C f p).2 ≠ none := fun h2 => by
  rw [climb_stop h2 1] at h
  have := climb_len C f p
  omega
theorem ChR.ok {N : Nat} {C : List Lk} {p : Int} (s : ChR N C p) : s.j ≤ N ↔ into C (climb C N p).2 = none := by
  constructor
  · intro h
    rcases s.stop with h1 | h1
    · have := climb_stop h1 (N - s.j)
      rw [show s.j + (N - s.j) = N by omega] at this
      rw [this]; exact h1
    · omega
  · intro h
    rcases Nat.lt_or_ge N s.j with h1 | h1
    · have h2 : s.j = N + 1 := by have := s.le; omega
      have h3 := s.len
      rw [h2] at h3
      exact absurd h (climb_more h3)
    · exact h1
theorem ChR.eq {N : Nat} {C : List Lk} {p : Int} (s : ChR N C p) (h : into C (climb C N p).2 = none) : climb C s.j p = climb C N p ∧ s.j = (chain C N p).length ∧ s.j ≤ N := by
  have hj := s.ok.2 h
  rcases s.stop with h1 | h1
  · have := climb_stop h1 (N - s.j)
    rw [show s.j + (N - s.j) = N by omega] at this
    refine ⟨this.symm, ?_, hj⟩
    unfold chain
    rw [this, s.len]
  · omega
/-- all chains end -/
def okT (N : Nat) (C : List Lk) : Prop := ∀ p : Nat, p < N → into C (climb C N p).2 = none
noncomputable instance (N : Nat) (C : List Lk) : Decidable (okT N C) := Classical.propDecidable _
/-- what Check answers -/
noncomputable def chkU (n : Int) (L C : List Lk) : Int := if chk n L ≠ 0 then chk n L else if 256 < C.length then 2 else if Ends n C ∧ okT n.toNat C then 0 else 230
theorem chkU_a {n : Int} {L C : List Lk} (h : chk n L ≠ 0) : chkU n L C = chk n L := if_pos h
theorem chkU_2 {n : Int} {L C : List Lk} (h : chk n L = 0) (h2 : 256 < C.length) : chkU n L C = 2 := by unfold chkU; rw [if_neg (fun g => g h), if_pos h2]
theorem chkU_0 {n : Int} {L C : List Lk} (h : chk n L = 0) (h2 : ¬ 256 < C.length) (h3 : Ends n C ∧ okT n.toNat C) : chkU n L C = 0 := by unfold chkU; rw [if_neg (fun g => g h), if_neg h2, if_pos h3]
theorem chkU_230 {n : Int} {L C : List Lk} (h : chk n L = 0) (h2 : ¬ 256 < C.length) (h3 : ¬ (Ends n C ∧ okT n.toNat C)) : chkU n L C = 230 := by unfold chkU; rw [if_neg (fun g => g h), if_neg h2, if_neg h3]
theorem chk_ok {n : Int} {l : List Lk} (h : chk n l = 0) : 1 ≤ n ∧ n ≤ 64 ∧ l.length ≤ 256 ∧ Fine n l := by
  unfold chk at h
  split at h
  · cases h
  · split at h
    · cases h
    · split at h
      · rename_i h1 h2 h3
        exact ⟨by omega, by omega, by omega, h3⟩
      · cases h
theorem Ends.tree {N : Nat} {C : List Lk} (h : Ends N C) (h2 : okT N C) : Tree N C := ⟨fun x hx => by
  obtain ⟨i, hi⟩ := List.getElem?_of_mem hx
  exact (h i x hi).1, fun i x hi => (h i x hi).2, h2⟩
theorem chkU_ok {n : Int} {L C : List Lk} (h : chkU n L C = 0) : 1 ≤ n ∧ n ≤ 64 ∧ L.length ≤ 256 ∧ C.length ≤ 256 ∧ Fine n L ∧ Tree n.toNat C := by
  by_cases h1 : chk n L = 0
  · obtain ⟨a, b, c, d⟩ := chk_ok h1
    by_cases h2 : 256 < C.length
    · rw [chkU_2 h1 h2] at h; cases h
    · by_cases h3 : Ends n C ∧ okT n.toNat C
      · refine ⟨a, b, c, by omega, d, Ends.tree (by rw [show ((n.toNat : Nat) : Int) = n by omega]; exact h3.1) h3.2⟩
      · rw [chkU_230 h1 h2 h3] at h; cases h
  · rw [chkU_a h1] at h; exact absurd h h1
set_option maxRecDepth 100000 in
set_option maxHeartbeats 40000000 in
theorem rCheckU_calls (u : Un) (w : World) (hA : u.In w) (hl : u.L.length ≤ 1000) (hc : u.C.length ≤ 1000) :
    Calls Try.prog 17 ⟨[.agg ⟨u.v⟩]⟩ w fun e w' => e = .returned (.int .i64 (chkU u.n u.L u.C)) ∧ Below w.heap.size w w' := by
  have hck : ∀ (mem : List (Nat × Obj)) (W : World), SatW w (base w) noJ mem W → Calls Try.prog 40 ⟨[.agg ⟨netCells u.n u.A u.L.length u.cap⟩]⟩ W fun e w' => e = .returned (.int .i64 (chk u.n u.L)) ∧ Below W.heap.size W w' := fun mem W hW => rcheck_calls u.n u.A u.cap u.L W hl (hA.l.sat hW)
  have hen : ∀ (mem : List (Nat × Obj)) (W : World), SatW w (base w) noJ mem W → Calls Try.prog 41 ⟨[.agg ⟨u.v⟩]⟩ W fun e w' => e = .returned (.bool (decide (Ends u.n u.C))) ∧ Below W.heap.size W w' := fun mem W hW => ends_calls u W (hA.sat hW) hc
  have hch : ∀ (N : Nat) (p : Int) (mem : List (Nat × Obj)) (W : World), u.n = N → N ≤ 64 → SatW w (base w) noJ mem W → Calls Try.prog 42 ⟨[.agg ⟨u.v⟩, .int .i64 p]⟩ W (ChainQ N u.C p W) := fun N p mem W h1 h2 hW => Chain_calls u N p W h1 h2 (hA.sat hW) hc
  obtain ⟨n, A, cap, L, B, cab, C⟩ := u
  simp only [Un.v] at hl hc hck hen hch ⊢
  refine fun_enter Try.func17 rfl Try.ntmps17 rfl rfl (satW_nil w) ?_
  repeat (first | refine l_val rfl rfl (by first | exact pureEval_ok rfl | exact v_load rfl (by repeat (first | exact List.Mem.head _ | apply List.Mem.tail)) rfl (by rfl) | exact v_build rfl rfl (by rfl)  | fail) ?_ | refine l_nil ?_ | refine c_region ?_ | refine c_seq ?_ | refine x_then ?_ | refine r_box rfl rfl rfl rfl (fun _ => ?_)  | fail)
  rename_i b
  refine r_call rfl rfl rfl (fun W hW => hck _ W hW) ?_
  by_cases h1 : chk n L = 0
  rotate_left
  · repeat (first | refine l_val rfl rfl (by first | exact pureEval_ok rfl  | fail) ?_ | refine l_nil ?_ | refine c_region ?_ | refine c_seq ?_ | refine x_then ?_ | refine c_dec_t rfl (by first | omega  | fail) ?_ | refine c_ret ?_ | refine x_then_ret ?_  | fail)
    exact x_ret rfl rfl (by repeat (first | exact Res.nil | (apply Res.tmp; rfl) | (apply Res.cell; rfl; exact (by repeat (first | exact List.Mem.head _ | apply List.Mem.tail)); rfl; rfl))) rfl (fun W hW => ⟨by rw [chkU_a h1], hW.below⟩)
  rw [h1]
  by_cases h2 : 256 < C.length
  · repeat (first | refine l_val rfl rfl (by first | exact pureEval_ok rfl | exact v_load rfl (by repeat (first | exact List.Mem.head _ | apply List.Mem.tail)) rfl (by rfl)  | fail) ?_ | refine l_nil ?_ | refine c_region ?_ | refine c_seq ?_ | refine x_then ?_ | refine c_false rfl ?_ | refine c_dec_t rfl (by first | omega  | fail) ?_ | refine c_skip ?_ | refine c_ret ?_ | refine x_then_ret ?_  | fail)
    exact x_ret rfl rfl (by repeat (first | exact Res.nil | (apply Res.tmp; rfl) | (apply Res.cell; rfl; exact (by repeat (first | exact List.Mem.head _ | apply List.Mem.tail)); rfl; rfl))) rfl (fun W hW => ⟨by rw [chkU_2 h1 h2], hW.below⟩)
  obtain ⟨n1, n2, l1, hF⟩ := chk_ok h1
  obtain ⟨N, rfl⟩ : ∃ N : Nat, n = N := ⟨n.toNat, by omega⟩
  repeat (first | refine l_val rfl rfl (by first | exact pureEval_ok rfl | exact v_load rfl (by repeat (first | exact List.Mem.head _ | apply List.Mem.tail)) rfl (by rfl)  | fail) ?_ | refine l_nil ?_ | refine c_region ?_ | refine c_seq ?_ | refine x_then ?_ | refine c_false rfl ?_ | refine c_dec_f rfl (by first | omega  | fail) ?_ | refine c_skip ?_  | fail)
  refine r_call rfl rfl rfl (fun W hW => hen _ W hW) ?_
  by_cases h3 : Ends N C
  rotate_left
  · rw [decide_eq_false h3]
    repeat (first | refine l_val rfl rfl (by first | exact pureEval_ok rfl  | fail) ?_ | refine l_nil ?_ | refine c_region ?_ | refine c_seq ?_ | refine x_then ?_ | refine c_true rfl ?_ | refine c_ret ?_ | refine x_then_ret ?_  | fail)
    exact x_ret rfl rfl (by repeat (first | exact Res.nil | (apply Res.tmp; rfl) | (apply Res.cell; rfl; exact (by repeat (first | exact List.Mem.head _ | apply List.Mem.tail)); rfl; rfl))) rfl (fun W hW => ⟨by rw [chkU_230 h1 h2 (fun g => h3 g.1)], hW.below⟩)
  rw [decide_eq_true h3]
  repeat (first | refine l_val rfl rfl (by first | exact pureEval_ok rfl  | fail) ?_ | refine l_nil ?_ | refine c_region ?_ | refine c_seq ?_ | refine x_then ?_ | refine c_false rfl ?_ | refine c_block ?_ | refine c_skip ?_  | fail)
  refine c_loop (ι := Nat) (fun k => k ≤ N ∧ ∀ p : Nat, p < k → into C (climb C N p).2 = none) (fun k => [(1, .pointer (some ⟨b, 0, none⟩)), (2, .int .i64 0), (5, .int .i64 k)]) (fun _ => [(b, .cells ⟨[.int .i64 N, .slice A L.length cap, .slice B C.length cab]⟩ 24 (0, 0))]) (fun k => N - k) 0 ⟨Nat.zero_le _, fun p hp => by omega⟩ (by repeat (first | exact EnvSub.nil | refine EnvSub.cons rfl (by first | rfl | (congr 1; done) | (exact congrArg (Value.int _) (by omega)) | (simp; done)) ?_)) (by repeat (first | exact MSub.nil | refine MSub.keep (by first | rfl | assumption) ?_ | refine MSub.drop ?_ | exact MSub.refl _)) ?_
  rintro k ⟨hk, hT⟩
  by_cases hlt : k < N
  · repeat (first | refine l_val rfl rfl (by first | exact pureEval_ok rfl | exact v_load rfl (by repeat (first | exact List.Mem.head _ | apply List.Mem.tail)) rfl (by rfl)  | fail) ?_ | refine l_nil ?_ | refine c_region ?_ | refine c_seq ?_ | refine x_then ?_ | refine c_dec_t rfl (by first | omega  | fail) ?_ | refine c_block ?_ | refine c_skip ?_  | fail)
    refine r_call1 (ι := ChR N C k) (v := fun s => s.v) (bk := fun s => s.b) (o := fun s => .cells ⟨flatI (outC C s.j k) ++ s.r⟩ 3 (0, 0)) rfl rfl rfl (fun W hW => (hch N k _ W rfl (by omega) hW).mono fun e W' h => ChainQ.r h) (fun s => ?_)
    unfold ChR.v
    by_cases hs : s.j ≤ N
    · rw [decide_eq_true hs]
      repeat (first | refine l_val rfl rfl (by first | exact v_add rfl rfl (by omega) (by omega) | exact pureEval_ok rfl  | fail) ?_ | refine l_nil ?_ | refine c_region ?_ | refine c_seq ?_ | refine x_then ?_ | refine c_false rfl ?_ | refine c_skip ?_ | refine x_block ?_  | fail)
      refine x_back (k + 1) ⟨hlt, fun p hp => ?_⟩ (by omega) (by repeat (first | exact EnvSub.nil | refine EnvSub.cons rfl (by first | rfl | (congr 1; done) | (exact congrArg (Value.int _) (by omega)) | (simp; done)) ?_)) (by repeat (first | exact MSub.nil | refine MSub.keep (by first | rfl | assumption) ?_ | refine MSub.drop ?_ | exact MSub.refl _))
      by_cases e : p = k
      · rw [e]; exact s.ok.1 hs
      · exact hT p (by omega)
    · rw [decide_eq_false hs]
      repeat (first | refine l_val rfl rfl (by first | exact pureEval_ok rfl  | fail) ?_ | refine l_nil ?_ | refine c_region ?_ | refine c_seq ?_ | refine x_then ?_ | refine c_true rfl ?_ | refine c_ret ?_ | refine x_then_ret ?_ | refine x_block_ret ?_  | fail)
      exact x_ret rfl rfl (by repeat (first | exact Res.nil | (apply Res.tmp; rfl) | (apply Res.cell; rfl; exact (by repeat (first | exact List.Mem.head _ | apply List.Mem.tail)); rfl; rfl))) rfl (fun W hW => ⟨by rw [chkU_230 h1 h2 (fun g => hs (s.ok.2 (g.2 k (by simpa using hlt))))], hW.below⟩)
  · have hkN : k = N := by omega
    repeat (first | refine l_val rfl rfl (by first | exact pureEval_ok rfl | exact v_load rfl (by repeat (first | exact List.Mem.head _ | apply List.Mem.tail)) rfl (by rfl)  | fail) ?_ | refine l_nil ?_ | refine c_region ?_ | refine c_seq ?_ | refine x_then ?_ | refine c_dec_f rfl (by first | omega  | fail) ?_ | refine c_ret ?_ | refine c_exit ?_ | refine x_then_exit ?_ | refine x_block_same ?_  | fail)
    exact x_ret rfl rfl (by repeat (first | exact Res.nil | (apply Res.tmp; rfl) | (apply Res.cell; rfl; exact (by repeat (first | exact List.Mem.head _ | apply List.Mem.tail)); rfl; rfl))) rfl (fun W hW => ⟨by rw [chkU_0 h1 h2 ⟨h3, fun p hp => hT p (by rw [Int.toNat_natCast] at hp; omega)⟩], hW.below⟩)
end R23
end Go.Proofs

set_option linter.unusedSectionVars false
set_option linter.unusedVariables false
set_option linter.unusedSimpArgs false
namespace Go.Proofs
open Go.RowKit Go.Kin Go.Kin.St Go.Kin.Ct
open R22
namespace R23
/-- a chain as the specification lists it -/
def chL (C : List Lk) (N : Nat) (p : Int) : List Int := (chain C N p).reverse.map fun i : Nat => (i : Int)
theorem chL_len {C : List Lk} {N : Nat} {p : Int} : (chL C N p).length = (chain C N p).length := by unfold chL; simp
theorem chL_mem {C : List Lk} {N : Nat} {p : Int} {i : Nat} : (i : Int) ∈ chL C N p ↔ i ∈ chain C N p := by
  unfold chL
  rw [List.mem_map]
  constructor
  · rintro ⟨j, hj, e⟩
    have : j = i := by omega
    rw [← this]; exact List.mem_reverse.1 hj
  · intro h
    exact ⟨i, List.mem_reverse.2 h, rfl⟩
theorem chL_get {C : List Lk} {N : Nat} {p : Int} {k i : Nat} (h : (chain C N p).reverse[k]? = some i) : (chL C N p)[k]? = some (i : Int) := by unfold chL; rw [List.getElem?_map, h]; rfl
def chV (C : List Lk) (N : Nat) (p : Int) (b c : Nat) : Value := .tuple ⟨[.slice (some ⟨b, 0, none⟩) (chL C N p).length c, .int .i64 (root C N p), .bool true]⟩
/-- Chain, where it ends -/
theorem ChainT_calls (u : Un) (N : Nat) (p : Nat) (w : World) (hn : u.n = N) (hN : N ≤ 64) (hA : u.In w) (hl : u.C.length ≤ 256) (hT : Tree N u.C) (hp : p < N) :
    Calls Try.prog 42 ⟨[.agg ⟨u.v⟩, .int .i64 p]⟩ w fun e w' => ∃ i : Nat × Nat × List Value, e = .returned (chV u.C N p i.1 i.2.1) ∧ Below w.heap.size w w' ∧ w.heap.size ≤ i.1 ∧ w'.heap[i.1]? = some (.cells ⟨flatI (chL u.C N p) ++ i.2.2⟩ 3 (0, 0)) :=
  (Chain_calls u N p w hn hN hA (by omega)).mono fun e w' h => by
    obtain ⟨s, h1, h2, h3, h4⟩ := ChainQ.r h
    obtain ⟨g1, g2, g3⟩ := s.eq (hT.ends p hp)
    have ho : outC u.C s.j p = chL u.C N p := by unfold outC chL chain; rw [g1]
    refine ⟨(s.b, s.c, s.r), ?_, h2, h3, by rw [← ho]; exact h4⟩
    rw [h1]
    unfold ChR.v chV root
    rw [g1, chL_len, ← g2, decide_eq_true g3]
theorem has_calls (T : Option Addr) (cap : Nat) (l : List Int) (x : Int) (w : World) (hl : l.length ≤ 100000) (hT : Kin.At w T 1 (l.map inE)) :
    Calls Try.prog 84 ⟨[.slice T l.length cap, .int .i64 x]⟩ w fun e w' => e = .returned (.bool (decide (x ∈ l))) ∧ Below w.heap.size w w' := by
  refine fun_enter Try.func84 rfl Try.ntmps84 rfl rfl (satW_nil w) ?_
  repeat (first | refine l_val rfl rfl (by first | exact pureEval_ok rfl  | fail) ?_ | refine l_nil ?_ | refine c_region ?_ | refine c_seq ?_ | refine x_then ?_ | refine c_block ?_  | fail)
  refine c_loop (ι := Nat) (fun k => k ≤ l.length ∧ x ∉ l.take k) (fun k => [(0, .slice T l.length cap), (1, .int .i64 x), (5, .int .i64 k)]) (fun _ => []) (fun k => l.length - k) 0 ⟨Nat.zero_le _, by simp⟩ (by repeat (first | exact EnvSub.nil | refine EnvSub.cons rfl (by first | rfl | (congr 1; done) | (exact congrArg (Value.int _) (by omega)) | (simp; done)) ?_)) (by repeat (first | exact MSub.nil | refine MSub.keep (by first | rfl | assumption) ?_ | refine MSub.drop ?_ | exact MSub.refl _)) ?_
  rintro k ⟨hk, hF⟩
  by_cases hlt : k < l.length
  · obtain ⟨y, hy⟩ : ∃ y, l[k]? = some y := ⟨_, List.getElem?_eq_getElem hlt⟩
    obtain ⟨b', o, rfl, hc⟩ := hT k (inE y) (by simp [hy])
    have he := ext_of hc
    rw [Nat.mul_one] at he
    by_cases hxy : y = x
    · have hin : x ∈ l := by rw [← hxy]; exact List.mem_of_getElem? hy
      repeat (first | refine l_val rfl rfl (by first | exact pureEval_ok rfl | exact v_load_ext0 rfl (by assumption) rfl (by rfl) | exact v_index rfl rfl rfl rfl (by omega) (by omega) (by with_reducible first | exact idx2 _ _   | fail)  | fail) ?_ | refine l_nil ?_ | refine c_region ?_ | refine c_seq ?_ | refine x_then ?_ | refine c_dec_t rfl (by first | omega  | fail) ?_ | refine c_block ?_ | refine c_skip ?_ | refine c_ret ?_ | refine x_then_ret ?_ | refine x_block_ret ?_  | fail)
      exact x_ret rfl rfl (by repeat (first | exact Res.nil | (apply Res.tmp; rfl) | (apply Res.cell; rfl; exact (by repeat (first | exact List.Mem.head _ | apply List.Mem.tail)); rfl; rfl))) rfl (fun W hW => ⟨by rw [decide_eq_true hin], hW.below⟩)
    · repeat (first | refine l_val rfl rfl (by first | exact v_add rfl rfl (by omega) (by omega) | exact pureEval_ok rfl | exact v_load_ext0 rfl (by assumption) rfl (by rfl) | exact v_index rfl rfl rfl rfl (by omega) (by omega) (by with_reducible first | exact idx2 _ _   | fail)  | fail) ?_ | refine l_nil ?_ | refine c_region ?_ | refine c_seq ?_ | refine x_then ?_ | refine c_dec_t rfl (by first | omega  | fail) ?_ | refine c_dec_f rfl (by first | omega  | fail) ?_ | refine c_block ?_ | refine c_skip ?_ | refine x_block ?_  | fail)
      refine x_back (k + 1) ⟨hlt, fun h => ?_⟩ (by omega) (by repeat (first | exact EnvSub.nil | refine EnvSub.cons rfl (by first | rfl | (congr 1; done) | (exact congrArg (Value.int _) (by omega)) | (simp; done)) ?_)) (by repeat (first | exact MSub.nil | refine MSub.keep (by first | rfl | assumption) ?_ | refine MSub.drop ?_ | exact MSub.refl _))
      rw [List.take_add_one, hy] at h
      rcases List.mem_append.1 h with h | h
      · exact hF h
      · simp only [Option.toList_some, List.mem_singleton] at h
        exact hxy h.symm
  · have hkl : k = l.length := by omega
    subst hkl
    rw [List.take_length] at hF
    repeat (first | refine l_val rfl rfl (by first | exact pureEval_ok rfl  | fail) ?_ | refine l_nil ?_ | refine c_region ?_ | refine c_seq ?_ | refine x_then ?_ | refine c_dec_f rfl (by first | omega  | fail) ?_ | refine c_ret ?_ | refine c_exit ?_ | refine x_then_exit ?_ | refine x_block_same ?_  | fail)
    exact x_ret rfl rfl (by repeat (first | exact Res.nil | (apply Res.tmp; rfl) | (apply Res.cell; rfl; exact (by repeat (first | exact List.Mem.head _ | apply List.Mem.tail)); rfl; rfl))) rfl (fun W hW => ⟨by rw [decide_eq_false hF], hW.below⟩)
theorem lsum_take {f : Nat → Int} {l : List Nat} {k i : Nat} (h : l[k]? = some i) : lsum f (l.take (k + 1)) = lsum f (l.take k) + f i := by
  rw [List.take_add_one, h, lsum_app]
  simp [lsum]
theorem lsum_bd {f : Nat → Int} {l : List Nat} (h : ∀ i ∈ l, -1099511627776 ≤ f i ∧ f i ≤ 1099511627776) : -(1099511627776 * (l.length : Int)) ≤ lsum f l ∧ lsum f l ≤ 1099511627776 * (l.length : Int) := by
  induction l with
  | nil => simp [lsum]
  | cons i l ih =>
    have h1 := ih fun j hj => h j (List.mem_cons_of_mem _ hj)
    have h2 := h i List.mem_cons_self
    simp only [lsum, List.length_cons]
    omega
def gF (C : List Lk) (a : List Nat) (i : Nat) : Int := if i ∈ a then 0 else hiOf C i
def gG (C : List Lk) (b : List Nat) (i : Nat) : Int := if i ∈ b then 0 else - loOf C i
set_option maxRecDepth 100000 in
set_option maxHeartbeats 40000000 in
theorem Gap_calls (u : Un) (N p q : Nat) (w : World) (hn : u.n = N) (hN : N ≤ 64) (hA : u.In w) (hl : u.C.length ≤ 256) (hT : Tree N u.C) (hp : p < N) (hq : q < N) :
    Calls Try.prog 74 ⟨[.agg ⟨u.v⟩, .int .i64 p, .int .i64 q]⟩ w fun e w' => e = .returned (.int .i64 (gap u.C N p q)) ∧ Below w.heap.size w w' := by
  have hch : ∀ (p : Nat) (mem : List (Nat × Obj)) (W : World), p < N → SatW w (base w) noJ mem W → Calls Try.prog 42 ⟨[.agg ⟨u.v⟩, .int .i64 p]⟩ W fun e w' => ∃ i : Nat × Nat × List Value, e = .returned (chV u.C N p i.1 i.2.1) ∧ Below W.heap.size W w' ∧ W.heap.size ≤ i.1 ∧ w'.heap[i.1]? = some (.cells ⟨flatI (chL u.C N p) ++ i.2.2⟩ 3 (0, 0)) := fun p mem W h hW => ChainT_calls u N p W hn hN (hA.sat hW) hl hT h
  have hB := hA.c
  obtain ⟨n, A, cap, L, B, cab, C⟩ := u
  simp only [Un.v] at hB hl hn hT hch ⊢
  subst hn
  have hca : (chain C N p).length ≤ 64 := by have := climb_len C N p; unfold chain; omega
  have hcb : (chain C N q).length ≤ 64 := by have := climb_len C N q; unfold chain; omega
  refine fun_enter Try.func74 rfl Try.ntmps74 rfl rfl (satW_nil w) ?_
  repeat (first | refine l_val rfl rfl (by first | exact pureEval_ok rfl | exact v_load rfl (by repeat (first | exact List.Mem.head _ | apply List.Mem.tail)) rfl (by rfl)  | fail) ?_ | refine l_nil ?_ | refine c_region ?_ | refine c_seq ?_ | refine x_then ?_ | refine r_box rfl rfl rfl rfl (fun _ => ?_)  | fail)
  rename_i b1
  refine r_call1 (ι := Nat × Nat × List Value) (v := fun i => chV C N p i.1 i.2.1) (bk := fun i => i.1) (o := fun i => .cells ⟨flatI (chL C N p) ++ i.2.2⟩ 3 (0, 0)) rfl rfl rfl (fun W hW => hch p _ W hp hW) ?_
  rintro ⟨ba, ca, ra⟩
  unfold chV
  repeat (first | refine l_val rfl rfl (by first | exact pureEval_ok rfl | exact v_load rfl (by repeat (first | exact List.Mem.head _ | apply List.Mem.tail)) rfl (by rfl)  | fail) ?_ | refine l_nil ?_ | refine c_region ?_ | refine c_seq ?_ | refine x_then ?_  | fail)
  refine r_call1 (ι := Nat × Nat × List Value) (v := fun i => chV C N q i.1 i.2.1) (bk := fun i => i.1) (o := fun i => .cells ⟨flatI (chL C N q) ++ i.2.2⟩ 3 (0, 0)) rfl rfl rfl (fun W hW => hch q _ W hq hW) ?_
  rintro ⟨bb, cb, rb⟩
  unfold chV
  simp only
  have hlA := chL_len (C := C) (N := N) (p := p)
  have hlB := chL_len (C := C) (N := N) (p := q)
  have hfb : ∀ (a : List Nat), ∀ i ∈ (chain C N q).reverse, -1099511627776 ≤ gF C a i ∧ gF C a i ≤ 1099511627776 := fun a i hi => by
    have := cal_of hT (Tree.chain_lt i (List.mem_reverse.1 hi))
    unfold gF; split <;> omega
  have hgb : ∀ (a : List Nat), ∀ i ∈ (chain C N p).reverse, -1099511627776 ≤ gG C a i ∧ gG C a i ≤ 1099511627776 := fun a i hi => by
    have := cal_of hT (Tree.chain_lt i (List.mem_reverse.1 hi))
    unfold gG; split <;> omega
  repeat (first | refine l_val rfl rfl (by first | exact pureEval_ok rfl  | fail) ?_ | refine l_nil ?_ | refine c_region ?_ | refine c_seq ?_ | refine x_then ?_ | refine c_block ?_  | fail)
  refine c_loop (ι := Nat) (fun k => k ≤ (chL C N q).length) (fun k => [(3, .pointer (some ⟨b1, 0, none⟩)), (7, .slice (some ⟨ba, 0, none⟩) (chL C N p).length ca), (10, .slice (some ⟨bb, 0, none⟩) (chL C N q).length cb), (13, .int .i64 (lsum (gF C (chain C N p)) ((chain C N q).reverse.take k))), (14, .int .i64 k)])
    (fun _ => [(bb, .cells ⟨flatI (chL C N q) ++ rb⟩ 3 (0, 0)), (ba, .cells ⟨flatI (chL C N p) ++ ra⟩ 3 (0, 0)), (b1, .cells ⟨[.int .i64 N, .slice A L.length cap, .slice B C.length cab]⟩ 24 (0, 0))]) (fun k => (chL C N q).length - k) 0 (Nat.zero_le _) (by repeat (first | exact EnvSub.nil | refine EnvSub.cons rfl (by first | rfl | (congr 1; done) | (exact congrArg (Value.int _) (by omega)) | (simp; done)) ?_)) (MSub.refl _) ?_
  intro k hk
  by_cases hlt : k < (chL C N q).length
  · obtain ⟨i, hi⟩ : ∃ i, (chain C N q).reverse[k]? = some i := ⟨_, List.getElem?_eq_getElem (by rw [List.length_reverse]; omega)⟩
    have him := List.mem_of_getElem? hi
    have hgt : (flatI (chL C N q) ++ rb)[k]? = some (.int .i64 (i : Int)) := flatI_get (chL_get hi)
    have hic := Tree.chain_lt i (List.mem_reverse.1 him)
    obtain ⟨x, hx⟩ : ∃ x, C[i]? = some x := ⟨_, List.getElem?_eq_getElem hic⟩
    obtain ⟨b', o, rfl, hc⟩ := hB i (lkE x) (by simp [hx])
    have he := ext_of hc
    have hsb := lsum_bd (l := (chain C N q).reverse.take k) fun j hj => hfb (chain C N p) j (List.mem_of_mem_take hj)
    rw [List.length_take, List.length_reverse] at hsb
    have hst := lsum_take (f := gF C (chain C N p)) hi
    have hfi := hfb (chain C N p) i him
    repeat (first | refine l_val rfl rfl (by first | exact pureEval_ok rfl | exact v_index rfl rfl rfl rfl (by omega) (by omega) (by with_reducible first | exact idx1 _   | fail) | exact v_load_at rfl (by repeat (first | exact List.Mem.head _ | apply List.Mem.tail)) rfl rfl (by first | assumption  | fail)  | fail) ?_ | refine l_nil ?_ | refine c_region ?_ | refine c_seq ?_ | refine x_then ?_ | refine c_dec_t rfl (by first | omega  | fail) ?_ | refine c_block ?_ | refine c_skip ?_  | fail)
    refine r_call rfl rfl rfl (fun W hW => has_calls (some ⟨ba, 0, none⟩) ca (chL C N p) i W (by omega) (SatW.rows (b := ba) (rest := ra) (rows := (chL C N p).map inE) hW (by repeat (first | exact List.Mem.head _ | apply List.Mem.tail)) rfl (in_len _))) ?_
    by_cases hin : i ∈ chain C N p
    · rw [decide_eq_true (chL_mem.2 hin)]
      have h0 : gF C (chain C N p) i = 0 := if_pos hin
      repeat (first | refine l_val rfl rfl (by first | exact v_add rfl rfl (by omega) (by omega) | exact pureEval_ok rfl  | fail) ?_ | refine l_nil ?_ | refine c_region ?_ | refine c_seq ?_ | refine x_then ?_ | refine c_false rfl ?_ | refine c_skip ?_ | refine x_block ?_  | fail)
      exact x_back (k + 1) hlt (by omega) (by repeat (first | exact EnvSub.nil | refine EnvSub.cons rfl (by first | rfl | (congr 1; done) | (exact congrArg (Value.int _) (by omega)) | (simp; done)) ?_)) (MSub.refl _)
    · rw [decide_eq_false (fun h => hin (chL_mem.1 h))]
      have h0 : gF C (chain C N p) i = x.hi := by unfold gF hiOf; rw [if_neg hin, hx]
      repeat (first | refine l_val rfl rfl (by first | exact v_add rfl rfl (by omega) (by omega) | exact pureEval_ok rfl  | fail) ?_ | refine l_nil ?_ | refine c_region ?_ | refine c_seq ?_ | refine x_then ?_ | refine c_true rfl ?_ | refine x_block ?_ | refine c_reads rfl (by decide +kernel) ?_ | refine q_val rfl rfl (by first | exact v_add rfl rfl (by omega) (by omega) | exact pureEval_ok rfl | exact v_load rfl (by repeat (first | exact List.Mem.head _ | apply List.Mem.tail)) rfl (by rfl) | exact v_load_ext rfl (by assumption) rfl (by rfl) | exact v_index rfl rfl rfl rfl (by omega) (by omega) (by with_reducible first | exact idx1 _  | exact idx4 _ _ _   | fail) | exact v_load_at rfl (by repeat (first | exact List.Mem.head _ | apply List.Mem.tail)) rfl rfl (by first | assumption  | fail)  | fail) ?_ | refine q_nil ?_  | fail)
      exact x_back (k + 1) hlt (by omega) (by repeat (first | exact EnvSub.nil | refine EnvSub.cons rfl (by first | rfl | (congr 1; done) | (exact congrArg (Value.int _) (by omega)) | (simp; done)) ?_)) (MSub.refl _)
  have hke : k = (chain C N q).reverse.length := by rw [List.length_reverse]; omega
  subst hke
  rw [List.take_length, lsum_rev]
  have hS := lsum_bd fun j hj => hfb (chain C N p) j (List.mem_reverse.2 hj)
  generalize hSd : lsum (gF C (chain C N p)) (chain C N q) = S at *
  have h0 : S + lsum (gG C (chain C N q)) ((chain C N p).reverse.take 0) = S := by rw [List.take_zero]; simp [lsum]
  repeat (first | refine l_val rfl rfl (by first | exact pureEval_ok rfl  | fail) ?_ | refine l_nil ?_ | refine c_region ?_ | refine c_seq ?_ | refine x_then ?_ | refine c_dec_f rfl (by first | omega  | fail) ?_ | refine c_block ?_ | refine c_exit ?_ | refine x_then_exit ?_ | refine x_block_same ?_  | fail)
  clear hk hlt
  refine c_loop (ι := Nat) (fun k => k ≤ (chL C N p).length) (fun k => [(3, .pointer (some ⟨b1, 0, none⟩)), (7, .slice (some ⟨ba, 0, none⟩) (chL C N p).length ca), (10, .slice (some ⟨bb, 0, none⟩) (chL C N q).length cb), (13, .int .i64 (S + lsum (gG C (chain C N q)) ((chain C N p).reverse.take k))), (16, .int .i64 k)])
    (fun _ => [(bb, .cells ⟨flatI (chL C N q) ++ rb⟩ 3 (0, 0)), (ba, .cells ⟨flatI (chL C N p) ++ ra⟩ 3 (0, 0)), (b1, .cells ⟨[.int .i64 N, .slice A L.length cap, .slice B C.length cab]⟩ 24 (0, 0))]) (fun k => (chL C N p).length - k) 0 (Nat.zero_le _) (by repeat (first | exact EnvSub.nil | refine EnvSub.cons rfl (by first | rfl | (congr 1; done) | (exact congrArg (Value.int _) (by omega)) | (simp; done)) ?_)) (MSub.refl _) ?_
  intro k hk
  by_cases hlt : k < (chL C N p).length
  · obtain ⟨i, hi⟩ : ∃ i, (chain C N p).reverse[k]? = some i := ⟨_, List.getElem?_eq_getElem (by rw [List.length_reverse]; omega)⟩
    have him := List.mem_of_getElem? hi
    have hgt : (flatI (chL C N p) ++ ra)[k]? = some (.int .i64 (i : Int)) := flatI_get (chL_get hi)
    have hic := Tree.chain_lt i (List.mem_reverse.1 him)
    obtain ⟨x, hx⟩ : ∃ x, C[i]? = some x := ⟨_, List.getElem?_eq_getElem hic⟩
    obtain ⟨b', o, rfl, hc⟩ := hB i (lkE x) (by simp [hx])
    have he := ext_of hc
    have hsb := lsum_bd (l := (chain C N p).reverse.take k) fun j hj => hgb (chain C N q) j (List.mem_of_mem_take hj)
    rw [List.length_take, List.length_reverse] at hsb
    have hst := lsum_take (f := gG C (chain C N q)) hi
    have hfi := hgb (chain C N q) i him
    repeat (first | refine l_val rfl rfl (by first | exact pureEval_ok rfl | exact v_index rfl rfl rfl rfl (by omega) (by omega) (by with_reducible first | exact idx1 _   | fail) | exact v_load_at rfl (by repeat (first | exact List.Mem.head _ | apply List.Mem.tail)) rfl rfl (by first | assumption  | fail)  | fail) ?_ | refine l_nil ?_ | refine c_region ?_ | refine c_seq ?_ | refine x_then ?_ | refine c_dec_t rfl (by first | omega  | fail) ?_ | refine c_block ?_ | refine c_skip ?_  | fail)
    refine r_call rfl rfl rfl (fun W hW => has_calls (some ⟨bb, 0, none⟩) cb (chL C N q) i W (by omega) (SatW.rows (b := bb) (rest := rb) (rows := (chL C N q).map inE) hW (by repeat (first | exact List.Mem.head _ | apply List.Mem.tail)) rfl (in_len _))) ?_
    by_cases hin : i ∈ chain C N q
    · rw [decide_eq_true (chL_mem.2 hin)]
      have h0 : gG C (chain C N q) i = 0 := if_pos hin
      repeat (first | refine l_val rfl rfl (by first | exact v_add rfl rfl (by omega) (by omega) | exact pureEval_ok rfl  | fail) ?_ | refine l_nil ?_ | refine c_region ?_ | refine c_seq ?_ | refine x_then ?_ | refine c_false rfl ?_ | refine c_skip ?_ | refine x_block ?_  | fail)
      exact x_back (k + 1) hlt (by omega) (by repeat (first | exact EnvSub.nil | refine EnvSub.cons rfl (by first | rfl | (congr 1; done) | (exact congrArg (Value.int _) (by omega)) | (simp; done)) ?_)) (MSub.refl _)
    · rw [decide_eq_false (fun h => hin (chL_mem.1 h))]
      have h0 : gG C (chain C N q) i = -x.lo := by unfold gG loOf; rw [if_neg hin, hx]
      repeat (first | refine l_val rfl rfl (by first | exact v_add rfl rfl (by omega) (by omega) | exact pureEval_ok rfl  | fail) ?_ | refine l_nil ?_ | refine c_region ?_ | refine c_seq ?_ | refine x_then ?_ | refine c_true rfl ?_ | refine x_block ?_ | refine c_reads rfl (by decide +kernel) ?_ | refine q_val rfl rfl (by first | exact v_sub rfl rfl (by omega) (by omega) | exact pureEval_ok rfl | exact v_load rfl (by repeat (first | exact List.Mem.head _ | apply List.Mem.tail)) rfl (by rfl) | exact v_load_ext rfl (by assumption) rfl (by rfl) | exact v_index rfl rfl rfl rfl (by omega) (by omega) (by with_reducible first | exact idx1 _  | exact idx4 _ _ _   | fail) | exact v_load_at rfl (by repeat (first | exact List.Mem.head _ | apply List.Mem.tail)) rfl rfl (by first | assumption  | fail)  | fail) ?_ | refine q_nil ?_  | fail)
      exact x_back (k + 1) hlt (by omega) (by repeat (first | exact EnvSub.nil | refine EnvSub.cons rfl (by first | rfl | (congr 1; done) | (exact congrArg (Value.int _) (by omega)) | (simp; done)) ?_)) (MSub.refl _)
  have hke : k = (chain C N p).reverse.length := by rw [List.length_reverse]; omega
  subst hke
  rw [List.take_length, lsum_rev]
  have hfin : S + lsum (gG C (chain C N q)) (chain C N p) = gap C N p q := by
    rw [← hSd]
    exact gap_lists (hT.nodup _ hp rfl) (hT.nodup _ hq rfl) Tree.chain_lt Tree.chain_lt
  rw [hfin]
  repeat (first | refine l_val rfl rfl (by first | exact pureEval_ok rfl  | fail) ?_ | refine l_nil ?_ | refine c_region ?_ | refine c_seq ?_ | refine x_then ?_ | refine c_dec_f rfl (by first | omega  | fail) ?_ | refine c_ret ?_ | refine c_exit ?_ | refine x_then_exit ?_ | refine x_block_same ?_  | fail)
  exact x_ret rfl rfl (by repeat (first | exact Res.nil | (apply Res.tmp; rfl) | (apply Res.cell; rfl; exact (by repeat (first | exact List.Mem.head _ | apply List.Mem.tail)); rfl; rfl))) rfl (fun W hW => ⟨rfl, hW.below⟩)
end R23
end Go.Proofs

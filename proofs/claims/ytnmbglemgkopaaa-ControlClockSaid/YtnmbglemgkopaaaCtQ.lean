/- Uncertain networks: the network of a clock. Plain Lean, and the specification's pause. -/
import Derived.Test.YtnmbglemgkopaaaTpV
import Derived.Test.YtnmbglemgkopaaaCtC
import Derived.Test.YtnmbglemgkopaaaEng31
set_option linter.unusedSectionVars false
set_option linter.unusedVariables false
set_option linter.unusedSimpArgs false
namespace Go.Proofs
open Go.RowKit Go.Kin Go.Kin.St Go.Kin.Ct Go.Kin.Tm
open R22
namespace R23
open R13 (Clk psE spE v2 tkA)
/-- the pause behind a bar -/
def psAt : List Ps → Int → Option Ps
  | [], _ => none
  | p :: l, k => if p.bar = k then some p else psAt l k
theorem psAt_some : ∀ {ps : List Ps} {k : Int} {i : Nat} {p : Ps}, (∀ j q, j < i → ps[j]? = some q → q.bar ≠ k) → ps[i]? = some p → p.bar = k → psAt ps k = some p
  | [], _, _, _, _, h, _ => by simp at h
  | q :: ps, k, 0, p, _, h, hk => by
    simp at h
    subst h
    exact if_pos hk
  | q :: ps, k, i + 1, p, h1, h, hk => by
    rw [psAt, if_neg (h1 0 q (by omega) rfl)]
    exact psAt_some (i := i) (fun j r hj hr => h1 (j + 1) r (by omega) (by simpa using hr)) (by simpa using h) hk
theorem psAt_none : ∀ {ps : List Ps} {k : Int}, (∀ (j : Nat) (q : Ps), ps[j]? = some q → q.bar ≠ k) → psAt ps k = none
  | [], _, _ => rfl
  | q :: ps, k, h => by
    rw [psAt, if_neg (h 0 q rfl)]
    exact psAt_none fun j r hr => h (j + 1) r (by simpa using hr)
theorem psAt_has {ps : List Ps} {n last k : Int} {i : Nat} (ha : ascP last n ps = true) (h : Tm.At ps i k) {p : Ps} (hp : ps[i]? = some p) : (p.bar = k → psAt ps k = some p) ∧ (p.bar ≠ k → psAt ps k = none) := by
  refine ⟨fun hk => psAt_some (i := i) (fun j q hj hq => ?_) hp hk, fun hk => psAt_none fun j q hq => ?_⟩
  · have := ascP_lt ha hj hq hp
    omega
  · intro e
    rcases Nat.lt_trichotomy j i with h1 | h1 | h1
    · have := h.2.1 j q h1 hq; omega
    · subst h1; rw [hp] at hq; cases hq; exact hk e
    · have h2 := ascP_lt ha h1 hp hq
      have h3 := h.2.2 i p (Nat.le_refl _) hp
      omega
theorem psAt_end {ps : List Ps} {k : Int} {i : Nat} (h : Tm.At ps i k) (hi : ps.length ≤ i) : psAt ps k = none := psAt_none fun j q hq => by
  have hlt := (List.getElem?_eq_some_iff.1 hq).1
  have := h.2.1 j q (by omega) hq
  omega
/-- the link of a bar -/
def ofLk (ts : List Tp) (ps : List Ps) (i : Nat) : Lk := match psAt ps i with
  | some p => ⟨i, i + 1, tk ts i + p.lo, tk ts i + p.hi⟩
  | none => ⟨i, i + 1, tk ts i, tk ts i⟩
def isFr (ps : List Ps) (i : Nat) : Bool := match psAt ps i with
  | some p => decide (p.kind = 1)
  | none => false
def frL (ts : List Tp) (ps : List Ps) (k : Nat) : List Lk := ((List.range k).filter fun i => isFr ps i).map (ofLk ts ps)
def clL (ts : List Tp) (ps : List Ps) (k : Nat) : List Lk := ((List.range k).filter fun i => !isFr ps i).map (ofLk ts ps)
theorem frL_succ (ts : List Tp) (ps : List Ps) (k : Nat) : frL ts ps (k + 1) = if isFr ps k = true then frL ts ps k ++ [ofLk ts ps k] else frL ts ps k := by
  unfold frL
  rw [List.range_succ, List.filter_append, List.map_append]
  cases h : isFr ps k <;> simp [h]
theorem clL_succ (ts : List Tp) (ps : List Ps) (k : Nat) : clL ts ps (k + 1) = if isFr ps k = true then clL ts ps k else clL ts ps k ++ [ofLk ts ps k] := by
  unfold clL
  rw [List.range_succ, List.filter_append, List.map_append]
  cases h : isFr ps k <;> simp [h]
theorem frL_le (ts : List Tp) (ps : List Ps) (k : Nat) : (frL ts ps k).length ≤ k := by
  unfold frL
  rw [List.length_map]
  exact Nat.le_trans (List.length_filter_le _ _) (by simp)
theorem clL_le (ts : List Tp) (ps : List Ps) (k : Nat) : (clL ts ps k).length ≤ k := by
  unfold clL
  rw [List.length_map]
  exact Nat.le_trans (List.length_filter_le _ _) (by simp)
def spL (l : List Sp) : List Lk := l.map fun s => ⟨s.f, s.t, s.lo, s.hi⟩
theorem spL_rows (l : List Sp) : (spL l).map lkE = l.map spE := by unfold spL; rw [List.map_map]; rfl
theorem spL_len (l : List Sp) : (spL l).length = l.length := List.length_map ..
/-- what Of answers -/
def ofE (c : Clk) : Int := if c.k ≠ 0 then c.k else if 63 < c.n then 2 else if 256 < (frL c.ts c.ps c.n.toNat ++ spL c.sp).length then 2 else 0
def ofN (c : Clk) : Int := if ofE c = 0 then c.n + 1 else 0
def ofL (c : Clk) : List Lk := if ofE c = 0 then frL c.ts c.ps c.n.toNat ++ spL c.sp else []
def ofC (c : Clk) : List Lk := if ofE c = 0 then clL c.ts c.ps c.n.toNat else []
theorem ofE_chk {c : Clk} (h : c.k ≠ 0) : ofE c = c.k := if_pos h
theorem ofE_big {c : Clk} (h : c.k = 0) (h2 : 63 < c.n) : ofE c = 2 := by unfold ofE; rw [if_neg (by simp [h]), if_pos h2]
theorem ofE_many {c : Clk} (h : c.k = 0) (h3 : 256 < (frL c.ts c.ps c.n.toNat ++ spL c.sp).length) : ofE c = 2 := by
  unfold ofE; rw [if_neg (by simp [h])]
  split
  · rfl
  · rfl
theorem ofE_ok {c : Clk} (h : c.k = 0) (h2 : ¬ 63 < c.n) (h3 : ¬ 256 < (frL c.ts c.ps c.n.toNat ++ spL c.sp).length) : ofE c = 0 := by unfold ofE; rw [if_neg (by simp [h]), if_neg h2, if_neg h3]
theorem of_no {c : Clk} (h : ofE c ≠ 0) : ofN c = 0 ∧ ofL c = [] ∧ ofC c = [] := ⟨if_neg h, if_neg h, if_neg h⟩
theorem of_yes {c : Clk} (h : ofE c = 0) : ofN c = c.n + 1 ∧ ofL c = frL c.ts c.ps c.n.toNat ++ spL c.sp ∧ ofC c = clL c.ts c.ps c.n.toNat := ⟨if_pos h, if_pos h, if_pos h⟩
def OfQ (c : Clk) (w : World) (e : Ending) (w' : World) : Prop := ∃ (A B : Option Addr) (ca cb : Nat), e = .returned (.tuple ⟨[.agg ⟨[.int .i64 (ofN c), .slice A (ofL c).length ca, .slice B (ofC c).length cb]⟩, .int .i64 (ofE c)]⟩) ∧ Fr w w' A 4 ((ofL c).map lkE) ∧ Fr w w' B 4 ((ofC c).map lkE) ∧ Below w.heap.size w w'
/-! ## The specification's pause -/
def psD (p : Option Ps) : Ps := match p with | some p => p | none => ⟨0, 0, 0, 0⟩
theorem pause_calls (c : Clk) (k : Int) (w : World) (hl : c.ps.length ≤ 5000) (hA : c.In w) :
    Calls Try.prog 38 ⟨[.agg ⟨c.v⟩, .int .i64 k]⟩ w fun e w' => e = .returned (.tuple ⟨[.agg ⟨psE (psD (psAt c.ps k))⟩, .bool (psAt c.ps k).isSome]⟩) ∧ Below w.heap.size w w' := by
  have hB := hA.b
  obtain ⟨n, ts, ps, sp, A, B, C, ca, cb, cc⟩ := c
  simp only [Clk.v] at hl hB ⊢
  refine fun_enter Try.func38 rfl Try.ntmps38 rfl rfl (satW_nil w) ?_
  repeat (first | refine l_val rfl rfl (by first | exact pureEval_ok rfl  | fail) ?_ | refine l_nil ?_ | refine c_region ?_ | refine c_seq ?_ | refine x_then ?_ | refine r_box rfl rfl rfl rfl (fun _ => ?_) | refine r_alloc rfl rfl rfl (by first | exact aggL  | fail) (fun _ => ?_) | refine c_block ?_  | fail)
  rename_i b2 b4
  refine c_loop (ι := Nat) (fun j => j ≤ ps.length ∧ ∀ i p, i < j → ps[i]? = some p → p.bar ≠ k) (fun j => [(1, .int .i64 k), (2, .pointer (some ⟨b2, 0, none⟩)), (4, .pointer (some ⟨b4, 0, none⟩)), (5, .bool false), (6, .int .i64 j)])
    (fun _ => [(b4, .cells ⟨[.int .i64 0, .int .i64 0, .int .i64 0, .int .i64 0]⟩ 68 (0, 0)), (b2, .cells ⟨[.int .i64 n, .slice A ts.length ca, .slice B ps.length cb, .slice C sp.length cc]⟩ 28 (0, 0))]) (fun j => ps.length - j) 0 ⟨Nat.zero_le _, fun i p h => by omega⟩ (by repeat (first | exact EnvSub.nil | refine EnvSub.cons rfl (by first | rfl | (congr 1; done) | (exact congrArg (Value.int _) (by omega)) | (simp; done)) ?_)) (by repeat (first | exact MSub.nil | refine MSub.keep (by first | rfl | assumption) ?_ | refine MSub.drop ?_ | exact MSub.refl _)) ?_
  rintro j ⟨hj, hF⟩
  by_cases hlt : j < ps.length
  · obtain ⟨p, hp⟩ : ∃ p, ps[j]? = some p := ⟨_, List.getElem?_eq_getElem hlt⟩
    obtain ⟨b', o, rfl, hc⟩ := hB j (psE p) (by simp [hp])
    have he := ext_of hc
    by_cases hk : p.bar = k
    · have hs := psAt_some (i := j) (fun i q hi hq => hF i q hi hq) hp hk
      repeat (first | refine l_val rfl rfl (by first | exact pureEval_ok rfl | exact v_load rfl (by repeat (first | exact List.Mem.head _ | apply List.Mem.tail)) rfl (by rfl) | exact v_load_ext0 rfl (by assumption) rfl (by rfl) | exact v_index rfl rfl rfl rfl (by omega) (by omega) (by with_reducible first | exact idx4 _ _ _   | fail)  | fail) ?_ | refine l_nil ?_ | refine c_region ?_ | refine c_seq ?_ | refine x_then ?_ | refine r_store rfl rfl rfl rfl rfl rfl rfl (by repeat (first | exact Upd.head | apply Upd.tail)) (by rfl) ?_ | refine c_dec_t rfl (by first | omega  | fail) ?_ | refine c_block ?_ | refine c_skip ?_ | refine c_ret ?_ | refine x_then_ret ?_ | refine x_block_ret ?_  | fail)
      exact x_ret rfl rfl (by repeat (first | exact Res.nil | (apply Res.tmp; rfl) | (apply Res.cell; rfl; exact (by repeat (first | exact List.Mem.head _ | apply List.Mem.tail)); rfl; rfl))) rfl (fun W hW => ⟨by rw [hs]; rfl, hW.below⟩)
    · repeat (first | refine l_val rfl rfl (by first | exact v_add rfl rfl (by omega) (by omega) | exact pureEval_ok rfl | exact v_load rfl (by repeat (first | exact List.Mem.head _ | apply List.Mem.tail)) rfl (by rfl) | exact v_load_ext0 rfl (by assumption) rfl (by rfl) | exact v_index rfl rfl rfl rfl (by omega) (by omega) (by with_reducible first | exact idx4 _ _ _   | fail)  | fail) ?_ | refine l_nil ?_ | refine c_region ?_ | refine c_seq ?_ | refine x_then ?_ | refine c_dec_t rfl (by first | omega  | fail) ?_ | refine c_dec_f rfl (by first | omega  | fail) ?_ | refine c_block ?_ | refine c_skip ?_ | refine x_block ?_  | fail)
      refine x_back (j + 1) ⟨hlt, fun i q hi hq => ?_⟩ (by omega) (by repeat (first | exact EnvSub.nil | refine EnvSub.cons rfl (by first | rfl | (congr 1; done) | (exact congrArg (Value.int _) (by omega)) | (simp; done)) ?_)) (by repeat (first | exact MSub.nil | refine MSub.keep (by first | rfl | assumption) ?_ | refine MSub.drop ?_ | exact MSub.refl _))
      by_cases e : i = j
      · subst e; rw [hp] at hq; cases hq; exact hk
      · exact hF i q (by omega) hq
  · have hje : j = ps.length := by omega
    subst hje
    have hs := psAt_none (ps := ps) (k := k) fun i q hq => hF i q (List.getElem?_eq_some_iff.1 hq).1 hq
    repeat (first | refine l_val rfl rfl (by first | exact pureEval_ok rfl | exact v_load rfl (by repeat (first | exact List.Mem.head _ | apply List.Mem.tail)) rfl (by rfl) | exact v_build rfl rfl (by rfl)  | fail) ?_ | refine l_nil ?_ | refine c_region ?_ | refine c_seq ?_ | refine x_then ?_ | refine r_store rfl rfl rfl rfl rfl rfl rfl (by repeat (first | exact Upd.head | apply Upd.tail)) (by rfl) ?_ | refine c_dec_f rfl (by first | omega  | fail) ?_ | refine c_ret ?_ | refine c_exit ?_ | refine x_then_exit ?_ | refine x_block_same ?_  | fail)
    exact x_ret rfl rfl (by repeat (first | exact Res.nil | (apply Res.tmp; rfl) | (apply Res.cell; rfl; exact (by repeat (first | exact List.Mem.head _ | apply List.Mem.tail)); rfl; rfl))) rfl (fun W hW => ⟨by rw [hs]; rfl, hW.below⟩)
end R23
end Go.Proofs

/- What remains of sorted decisions. Plain Lean. -/
import Derived.Test.YtcodoembnjemkaaSgSru
set_option linter.unusedSectionVars false
set_option linter.unusedVariables false
set_option linter.unusedSimpArgs false
namespace Go.Proofs
open Go.Kin.Sg
namespace R24
section
variable {α : Type} (k : α → Int) (l : α → List Int)
def eqR (x y : α) : Bool := decide (cmpK (k x) (l x) (k y) (l y) = 0)
/-- the place holds what the one ahead of it holds -/
def dup (rows : List α) (m : Nat) : Bool := match m with
  | 0 => false
  | m + 1 => match rows[m + 1]?, rows[m]? with
    | some y, some x => eqR k l y x
    | _, _ => false
/-- what remains of the first places -/
def kp (rows : List α) : Nat → List α
  | 0 => []
  | m + 1 => kp rows m ++ if dup k l rows m then [] else rows[m]?.toList
variable {k l}
theorem dup_at {rows : List α} {m : Nat} {x y : α} (hy : rows[m + 1]? = some y) (hx : rows[m]? = some x) : dup k l rows (m + 1) = eqR k l y x := by simp only [dup, hy, hx]
theorem kp_dup {rows : List α} {m : Nat} (h : dup k l rows m = true) : kp k l rows (m + 1) = kp k l rows m := by rw [kp, if_pos h, List.append_nil]
theorem kp_new {rows : List α} {m : Nat} {x : α} (h : dup k l rows m = false) (hx : rows[m]? = some x) : kp k l rows (m + 1) = kp k l rows m ++ [x] := by rw [kp, h, hx]; rfl
theorem kp_all {rows : List α} : ∀ {m : Nat}, m ≤ rows.length → (∀ j, j < m → dup k l rows j = false) → kp k l rows m = rows.take m
  | 0, _, _ => rfl
  | m + 1, hm, h => by
    have hlt : m < rows.length := by omega
    rw [kp_new (h m (by omega)) (List.getElem?_eq_getElem hlt), kp_all (by omega) fun j hj => h j (by omega), List.take_add_one, List.getElem?_eq_getElem hlt]; rfl
theorem kp_mem {rows : List α} : ∀ {m : Nat} {x : α}, x ∈ kp k l rows m → x ∈ rows
  | m + 1, x, h => by
    rw [kp] at h
    rcases List.mem_append.1 h with h | h
    · exact kp_mem h
    · split at h
      · cases h
      · cases h2 : rows[m]? with
        | none => rw [h2] at h; cases h
        | some y =>
          rw [h2] at h
          simp only [Option.toList_some, List.mem_singleton] at h
          rw [h]; exact List.mem_of_getElem? h2
theorem kp_sub {rows : List α} : ∀ {m : Nat}, (kp k l rows m).Sublist (rows.take m)
  | 0 => List.Sublist.refl _
  | m + 1 => by
    rw [kp, List.take_add_one]
    refine kp_sub.append ?_
    split
    · exact List.nil_sublist _
    · exact List.Sublist.refl _
theorem kp_subl {rows : List α} {m : Nat} : (kp k l rows m).Sublist rows := kp_sub.trans (List.take_sublist _ _)
variable {n : Nat}
theorem kp_cover {rows : List α} (hl : ∀ x ∈ rows, (l x).length = n) : ∀ {m : Nat}, ∀ i, i < m → ∀ x, rows[i]? = some x → ∃ z ∈ kp k l rows m, k z = k x ∧ l z = l x
  | m + 1, i, hi, x, hx => by
    by_cases him : i < m
    · obtain ⟨z, h1, h2⟩ := kp_cover hl i him x hx
      exact ⟨z, by rw [kp]; exact List.mem_append_left _ h1, h2⟩
    · have e : i = m := by omega
      subst e
      cases hd : dup k l rows i with
      | false => exact ⟨x, by rw [kp_new hd hx]; simp, rfl, rfl⟩
      | true =>
        rw [kp_dup hd]
        cases i with
        | zero => cases hd
        | succ i =>
          have hlt := (List.getElem?_eq_some_iff.1 hx).1
          have hy : rows[i]? = some rows[i] := List.getElem?_eq_getElem (by omega)
          rw [dup_at hx hy] at hd
          have h0 := of_decide_eq_true hd
          rw [cmpK_zero (by rw [hl _ (List.mem_of_getElem? hx), hl _ (List.mem_of_getElem? hy)])] at h0
          obtain ⟨z, h1, h2, h3⟩ := kp_cover (rows := rows) hl i (Nat.lt_succ_self i) _ hy
          exact ⟨z, h1, by rw [h2, h0.1], by rw [h3, h0.2]⟩
theorem kp_sorted {rows : List α} (hl : ∀ x ∈ rows, (l x).length = n) (hs : rows.Pairwise fun x y => ¬ cmpK (k y) (l y) (k x) (l x) < 0) : ∀ {m : Nat}, m ≤ rows.length →
    (kp k l rows m).Pairwise (fun x y => cmpK (k x) (l x) (k y) (l y) < 0) ∧ ∀ z ∈ kp k l rows m, ∀ i x, i + 1 = m → rows[i]? = some x → ¬ cmpK (k x) (l x) (k z) (l z) < 0
  | 0, _ => ⟨List.Pairwise.nil, fun z hz => by cases hz⟩
  | m + 1, hm => by
    have ih := kp_sorted hl hs (m := m) (by omega)
    have hx : rows[m]? = some rows[m] := List.getElem?_eq_getElem (by omega)
    have hlx := hl _ (List.mem_of_getElem? hx)
    cases hd : dup k l rows m with
    | true =>
      rw [kp_dup hd]
      refine ⟨ih.1, fun z hz i x hi h => ?_⟩
      have e : i = m := by omega
      subst e
      rw [hx] at h; cases h
      cases i with
      | zero => cases hd
      | succ i =>
        have hy : rows[i]? = some rows[i] := List.getElem?_eq_getElem (by omega)
        rw [dup_at hx hy] at hd
        have h0 := of_decide_eq_true hd
        rw [cmpK_zero (by rw [hlx, hl _ (List.mem_of_getElem? hy)])] at h0
        have h1 := ih.2 z hz i _ rfl hy
        rw [h0.1, h0.2]; exact h1
    | false =>
      rw [kp_new hd hx]
      refine ⟨?_, fun z hz i x hi h => ?_⟩
      · rw [List.pairwise_append]
        refine ⟨ih.1, List.pairwise_singleton _ _, fun z hz y hy => ?_⟩
        rw [List.mem_singleton.1 hy]
        cases m with
        | zero => cases hz
        | succ m =>
          have hy : rows[m]? = some rows[m] := List.getElem?_eq_getElem (by omega)
          have h1 := ih.2 z hz m _ rfl hy
          have hly := hl _ (List.mem_of_getElem? hy)
          have hlz := hl _ (kp_mem hz)
          rw [dup_at hx hy] at hd
          have h0 := of_decide_eq_false hd
          have h2 := (List.pairwise_iff_getElem.1 hs) m (m + 1) (by omega) (by omega) (by omega)
          have h3 : cmpK (k rows[m]) (l rows[m]) (k rows[m + 1]) (l rows[m + 1]) < 0 := by
            rcases cmpK_tri (k1 := k rows[m]) (k2 := k rows[m + 1]) (a := l rows[m]) (b := l rows[m + 1]) (by rw [hlx, hly]) with h4 | ⟨h4, h5⟩ | h4
            · exact h4
            · exact absurd ((cmpK_zero (by rw [hlx, hly])).2 ⟨h4.symm, h5.symm⟩) h0
            · exact absurd h4 h2
          rcases cmpK_tri (k1 := k z) (k2 := k rows[m]) (a := l z) (b := l rows[m]) (by rw [hlz, hly]) with h4 | ⟨h4, h5⟩ | h4
          · exact cmpK_trans (by rw [hlz, hly]) (by rw [hlx, hly]) h4 h3
          · rw [h4, h5]; exact h3
          · exact absurd h4 h1
      · have e : i = m := by omega
        subst e
        rw [hx] at h; cases h
        rcases List.mem_append.1 hz with hz | hz
        · cases i with
          | zero => cases hz
          | succ i =>
            have hy : rows[i]? = some rows[i] := List.getElem?_eq_getElem (by omega)
            have h1 := ih.2 z hz i _ rfl hy
            have hly := hl _ (List.mem_of_getElem? hy)
            have hlz := hl _ (kp_mem hz)
            have h2 := (List.pairwise_iff_getElem.1 hs) i (i + 1) (by omega) (by omega) (by omega)
            intro h3
            rcases cmpK_tri (k1 := k z) (k2 := k rows[i]) (a := l z) (b := l rows[i]) (by rw [hlz, hly]) with h4 | ⟨h4, h5⟩ | h4
            · exact h2 (cmpK_trans (by rw [hlx, hlz]) (by rw [hlz, hly]) h3 h4)
            · rw [← h4, ← h5] at h2; exact h2 h3
            · exact h1 h4
        · rw [List.mem_singleton.1 hz]; exact cmpK_irrefl
end
end R24
end Go.Proofs

set_option linter.unusedSectionVars false
set_option linter.unusedVariables false
set_option linter.unusedSimpArgs false
namespace Go
open Go.RowKit Go.Sort
namespace Kin
theorem putK_splice {β : Type} : ∀ {cs vs : List Value} {o : Nat} {k : List Value → Option β}, o + vs.length ≤ cs.length → putK cs o vs k = k (splice cs o vs)
  | [], vs, o, k, h => by
    obtain ⟨h2, h1⟩ : o = 0 ∧ vs = [] := by simpa using h
    subst h1
    subst h2; rfl
  | c :: cs, vs, o + 1, k, h => by
    show putK cs o vs (fun r => k (c :: r)) = _
    rw [putK_splice (by simp only [List.length_cons] at h; omega)]
    unfold splice
    simp only [List.take_succ_cons, List.cons_append]
    rw [show o + 1 + vs.length = (o + vs.length) + 1 by omega, List.drop_succ_cons]
  | c :: cs, [], 0, k, h => rfl
  | c :: cs, v :: vs, 0, k, h => by
    show putK cs 0 vs (fun r => k (v :: r)) = _
    rw [putK_splice (by simp only [List.length_cons] at h; omega)]
    unfold splice
    simp
theorem below_grow (w : World) (q : Nat) (os : Array Obj) : Below w.heap.size w (grow (w.drewN q) os) where
  os := rfl
  tape := rfl
  output := rfl
  size := by show w.heap.size ≤ (w.heap ++ os).size; simp
  block := fun k hk => by
    show (w.heap ++ os)[k]? = _
    rw [Array.getElem?_append_left hk]
section
variable {P : Program} {N : Nat} {c : Cx} {Q : Exit → Act → World → Prop} {env : List (Nat × Value)} {mem : List (Nat × Obj)} {L l : List Oper} {tt : List (TypeId × TI)} {ty : TypeId} {pos : String} {af : Array Edge} {g : Option (Nat × Bool)} [Wide c.F]
/-- the first element of a queue is left -/
theorem r_tailM [T : TT P tt] {d t e n sz bt sz' bt' : Nat} {x : Operand} {ke : TK} {z z' : Value} {q : QP} {r xs : List Value} (hw : wantB L env g = some true) (hd : Nat.blt d N = true) (hx : evOp env x = some (q.v (n + 1))) (ht : look tt t = some ⟨.slice e, sz', bt', z'⟩)
    (hte : look tt e = some ⟨ke, sz, bt, z⟩) (hg : q.OK sz (n + 1) (r ++ xs)) (hr : r.length = sz)
    (k : ∀ q' : QP, q'.OK sz n xs → q'.m e xs = q.m e (r ++ xs) → RunL P N c L l Q ((d, q'.v n) :: env) mem) : RunL P N c L (⟨some d, .slice t x (some (.const (.int .i64 1))) none none, ty, pos, af, g⟩ :: l) Q env mem := by
  obtain ⟨q', h1, h2, h3⟩ := v_tailM (P := P) (N := N) (c := c) (env := env) (mem := mem) (ty := ty) (pos := pos) (af := af) (g := g) (dd := some d) hx ht hte hg hr
  exact l_val hw hd h3 (k q' h1 h2)
/-- what is not needed any more is left -/
theorem l_part {mem' : List (Nat × Obj)} (extra : List (Nat × Obj)) (hp : mem.Perm (extra ++ mem')) (k : RunL P N c L l Q env mem') : RunL P N c L l Q env mem := .mk fun a W ha hm => k.run a W ha ((hm.perm hp).mono (List.sublist_append_right _ _))
theorem c_part {x : Code} {mem' : List (Nat × Obj)} (extra : List (Nat × Obj)) (hp : mem.Perm (extra ++ mem')) (k : RunC P N c x Q env mem') : RunC P N c x Q env mem := .mk fun a W ha hm => k.run a W ha ((hm.perm hp).mono (List.sublist_append_right _ _))
/-- a block of one's own that a call leaves alone -/
theorem ext_own {w0 W : World} {D : Nat → Prop} {J : (Nat → Prop) → World → Prop} {pre mem0 : List (Nat × Obj)} (h : SatW w0 D J mem W) (hp : mem.Perm (pre ++ mem0)) {b : Nat} {vs : List Value} {T : TypeId} {fr : Nat × Nat} (hb : (b, Obj.cells ⟨vs⟩ T fr) ∈ mem0) : Ext W (allBut W (pre.map (·.1))) b 0 vs := by
  have h1 := h.perm hp
  have hb2 := List.mem_append_right pre hb
  refine ⟨⟨h1.lt hb2, fun hm => ?_⟩, fun j v hj => by rw [Nat.zero_add, h1.cellAt hb2]; exact hj⟩
  have hnd := h1.nodup
  rw [List.map_append, List.nodup_append] at hnd
  exact hnd.2.2 _ hm _ (List.mem_map.2 ⟨_, hb, rfl⟩) rfl
end
end Kin
end Go

set_option linter.unusedSectionVars false
set_option linter.unusedVariables false
set_option linter.unusedSimpArgs false
namespace Go.Proofs
open Go.RowKit Go.Kin Go.Kin.St Go.Kin.Ct Go.Kin.Sg Go.Shelf Go.Sort
namespace R24
def drK (r : DR) : Int := r.k
def knC (w : World) (r : DR) : Prop := ∀ k x, r.l[k]? = some x → w.cell? ⟨r.bk, 0 + k, none⟩ = some (.int .i64 x)
set_option maxRecDepth 100000 in
set_option maxHeartbeats 40000000 in
theorem same_calls (x y : DR) (n : Nat) (hx : x.l.length = n) (hy : y.l.length = n) (hn : n ≤ 1000) (w : World) (hcx : knC w x) (hcy : knC w y) :
    Calls Try.prog 78 ⟨[] ++ [.agg ⟨drE x⟩, .agg ⟨drE y⟩] ++ []⟩ w fun e w' => e = .returned (.bool (eqR drK DR.l x y)) ∧ Below w.heap.size w w' := by
  refine fun_enter Try.func78 rfl Try.ntmps78 rfl rfl (satW_nil w) ?_
  repeat (first | refine l_val rfl rfl (by first | exact pureEval_ok rfl | exact v_load rfl (by repeat (first | exact List.Mem.head _ | apply List.Mem.tail)) rfl (by rfl)  | fail) ?_ | refine l_nil ?_ | refine c_region ?_ | refine c_seq ?_ | refine x_then ?_ | refine r_box rfl rfl rfl rfl (fun _ => ?_)  | fail)
  refine r_call (v := .int .i64 (or2 (cmpI x.k y.k) (cmpL x.l y.l))) rfl rfl rfl (fun W hW => (compare_any x.k y.k x.bk 0 x.ck y.bk 0 y.ck x.l y.l _ _ rfl rfl W (by rw [hx, hy]) (by rw [hx]; exact hn) (fun k v h => (hW.below.cell (lt_of_cell (hcx k v h))).trans (hcx k v h)) (fun k v h => (hW.below.cell (lt_of_cell (hcy k v h))).trans (hcy k v h))).mono ?_) ?_
  · rintro e w' ⟨rfl, q, os, rfl⟩
    exact ⟨rfl, below_grow _ _ _⟩
  repeat (first | refine l_val rfl rfl (by first | exact pureEval_ok rfl  | fail) ?_ | refine l_nil ?_ | refine x_then ?_ | refine c_ret ?_  | fail)
  exact x_ret rfl rfl (by repeat (first | exact Res.nil | (apply Res.tmp; rfl) | (apply Res.cell; rfl; exact (by repeat (first | exact List.Mem.head _ | apply List.Mem.tail)); rfl; rfl))) rfl (fun W hW => ⟨rfl, hW.below⟩)
theorem drE_rows : ∀ {l : List DR}, ∀ r ∈ l.map drE, r.length = 3 := fun r hr => by obtain ⟨x, _, rfl⟩ := List.mem_map.1 hr; rfl
theorem dr_at {l : List DR} {rest : List Value} {i : Nat} {r : DR} (h : l[i]? = some r) : RowAt ((l.map drE).flatten ++ rest) (i * 3) (drE r) := rowAt_flatten drE_rows (by rw [List.getElem?_map, h]; rfl)
theorem dr_put {l : List DR} {rest : List Value} {i : Nat} {r : DR} (h : i < l.length) : putK ((l.map drE).flatten ++ rest) (i * 3) (drE r) some = some (((l.set i r).map drE).flatten ++ rest) := by
  rw [putK_splice (by rw [List.length_append, dr_rows, drE_len]; omega), splice_flatten drE_rows (by simpa using h) rfl, List.map_set]
structure CO where
  rs : List DR
  cap : Nat
  rest : List Value
set_option maxRecDepth 100000 in
set_option maxHeartbeats 100000000 in
theorem compact_calls (rows : List DR) (b cap n : Nat) (rest : List Value) (w : World) (hl : ∀ r ∈ rows, r.l.length = n) (hn : n ≤ 1000) (hlen : rows.length ≤ 10000000) (hgr : Grow 3 rows.length ((rows.map drE).flatten) cap rest)
    (hk : ∀ r ∈ rows, r.bk ≠ b ∧ r.bk < w.heap.size ∧ knC w r) (hb : w.heap[b]? = some (.cells ⟨(rows.map drE).flatten ++ rest⟩ 57 (0, 0))) :
    Calls Try.prog 77 ⟨[.slice (some ⟨b, 0, none⟩) rows.length cap, .func (.func 78) ⟨[]⟩ ⟨[]⟩]⟩ w
      (FrQ [(b, .cells ⟨(rows.map drE).flatten ++ rest⟩ 57 (0, 0))] (fun _ : { rest' : List Value // Grow 3 (kp drK DR.l rows rows.length).length (((kp drK DR.l rows rows.length).map drE).flatten) cap rest' } => .slice (some ⟨b, 0, none⟩) (kp drK DR.l rows rows.length).length cap)
        (fun i => [(b, .cells ⟨((kp drK DR.l rows rows.length).map drE).flatten ++ i.1⟩ 57 (0, 0))]) w) := by
  have hsat : SatW w (allBut w ([(b, Obj.cells ⟨(rows.map drE).flatten ++ rest⟩ 57 (0, 0))].map (·.1))) noJ [(b, Obj.cells ⟨(rows.map drE).flatten ++ rest⟩ 57 (0, 0))] w := frQ_start (by simp) (by simpa using hb)
  have hkn : ∀ {r : DR}, r ∈ rows → ∀ {mem : List (Nat × Obj)} {W : World}, SatW w (allBut w ([(b, Obj.cells ⟨(rows.map drE).flatten ++ rest⟩ 57 (0, 0))].map (·.1))) noJ mem W → knC W r := fun {r} hr {mem} {W} hW k x h => by
    obtain ⟨h1, h2, h3⟩ := hk r hr
    exact hW.same.cell (h3 k x h) ⟨h2, by simpa using h1⟩
  have hcl := hgr.le
  have hcm := hgr.max
  refine fun_enter Try.func77 rfl Try.ntmps77 rfl rfl hsat ?_
  by_cases h2 : rows.length < 2
  · have hk2 : kp drK DR.l rows rows.length = rows := by
      rw [kp_all (Nat.le_refl _) fun j hj => by
        have e : j = 0 := by omega
        subst e; rfl, List.take_length]
    rw [hk2]
    repeat (first | refine l_val rfl rfl (by first | exact pureEval_ok rfl  | fail) ?_ | refine l_nil ?_ | refine c_region ?_ | refine c_seq ?_ | refine x_then ?_ | refine c_dec_t rfl (by first | omega  | fail) ?_ | refine c_ret ?_ | refine x_then_ret ?_  | fail)
    exact x_ret rfl rfl (by repeat (first | exact Res.nil | (apply Res.tmp; rfl) | (apply Res.cell; rfl; exact (by repeat (first | exact List.Mem.head _ | apply List.Mem.tail)); rfl; rfl))) rfl (fun W hW => ⟨⟨rest, hgr⟩, rfl, hW⟩)
  · refine c_seq ?_
    repeat ((fail_if_success refine c_probe (id := 4) ?_); (fail_if_success refine c_probe1 (id := 4) ?_); first | refine l_val rfl rfl (by first | exact pureEval_ok rfl  | fail) ?_ | refine l_nil ?_ | refine c_region ?_ | refine c_seq ?_ | refine x_then ?_ | refine c_dec_f rfl (by first | omega  | fail) ?_ | refine c_block ?_ | refine c_skip ?_  | fail)
    refine c_loop (ι := Nat) (fun k => 1 ≤ k ∧ k ≤ rows.length ∧ ∀ j, j < k → dup drK DR.l rows j = false) (fun k => [(0, .slice (some ⟨b, 0, none⟩) rows.length cap), (1, .func (.func 78) ⟨[]⟩ ⟨[]⟩), (5, .int .i64 (k : Nat))]) (fun _ => [(b, .cells ⟨(rows.map drE).flatten ++ rest⟩ 57 (0, 0))]) (fun k => rows.length - k) 1 ⟨Nat.le_refl _, by omega, fun j hj => by
      have e : j = 0 := by omega
      subst e; rfl⟩ (by repeat (first | exact EnvSub.nil | refine EnvSub.cons rfl (by first | rfl | (congr 1; done) | (exact congrArg (Value.int _) (by omega)) | (simp; done)) ?_)) (by repeat (first | exact MSub.nil | refine MSub.keep (by first | rfl | assumption) ?_ | refine MSub.drop ?_ | exact MSub.refl _)) ?_
    rintro k ⟨hk1, hkl, hF⟩
    by_cases hlt : k < rows.length
    · obtain ⟨j, rfl⟩ : ∃ j, k = j + 1 := ⟨k - 1, by omega⟩
      obtain ⟨y, hy⟩ : ∃ y, rows[j + 1]? = some y := ⟨_, List.getElem?_eq_getElem hlt⟩
      obtain ⟨x, hx⟩ : ∃ x, rows[j]? = some x := ⟨_, List.getElem?_eq_getElem (by omega)⟩
      have hym := List.mem_of_getElem? hy
      have hxm := List.mem_of_getElem? hx
      have hd := dup_at (k := drK) (l := DR.l) hy hx
      have hr1 : RowAt ((rows.map drE).flatten ++ rest) ((j + 1) * 3) (drE y) := dr_at hy
      have hr2 : RowAt ((rows.map drE).flatten ++ rest) ((((j + 1 : Nat) : Int) - 1).toNat * 3) (drE x) := by
        rw [show (((j + 1 : Nat) : Int) - 1).toNat = j by omega]; exact dr_at hx
      repeat ((fail_if_success refine c_probe (id := 6) ?_); (fail_if_success refine c_probe1 (id := 6) ?_); first | refine l_val rfl rfl (by first | exact pureEval_ok rfl  | fail) ?_ | refine l_nil ?_ | refine c_region ?_ | refine c_seq ?_ | refine x_then ?_ | refine c_dec_t rfl (by first | omega  | fail) ?_ | refine c_block ?_ | refine c_skip ?_  | fail)
      repeat refine c_seq ?_
      refine c_new 0 0 [(10, .cal (.bool (eqR drK DR.l y x)))] [(10, [])] [] rfl (by decide +kernel) rfl ?_
      repeat (first | refine e_val rfl rfl rfl rfl (by first | exact v_sub rfl rfl (by omega) (by omega) | exact pureEval_ok rfl | exact v_index rfl rfl rfl rfl (by omega) (by omega) (by with_reducible first | exact idx3 _ _  | exact idx7 _ _   | fail) | exact v_load_row rfl (by repeat (first | exact List.Mem.head _ | apply List.Mem.tail)) rfl rfl (by first | assumption  | fail) rfl  | fail) ?_  | fail)
      refine e_callv rfl rfl rfl rfl rfl rfl rfl (fun W hW => same_calls y x n (hl y hym) (hl x hxm) hn W (hkn hym hW) (hkn hxm hW)) ?_
      cases he : eqR drK DR.l y x with
      | false =>
        repeat (first | refine l_val rfl rfl (by first | exact v_add rfl rfl (by omega) (by omega) | exact pureEval_ok rfl  | fail) ?_ | refine l_nil ?_ | refine c_region ?_ | refine x_then ?_ | refine c_false rfl ?_ | refine c_skip ?_ | refine x_block ?_ | refine e_nil rfl ?_  | fail)
        refine x_back (j + 1 + 1) ⟨by omega, by omega, fun i hi => ?_⟩ (by omega) (by repeat (first | exact EnvSub.nil | refine EnvSub.cons rfl (by first | rfl | (congr 1; done) | (exact congrArg (Value.int _) (by omega)) | (simp; done)) ?_)) (by repeat (first | exact MSub.nil | refine MSub.keep (by first | rfl | assumption) ?_ | refine MSub.drop ?_ | exact MSub.refl _))
        by_cases hij : i < j + 1
        · exact hF i hij
        · have e : i = j + 1 := by omega
          subst e; rw [hd, he]
      | true =>
        rw [he] at hd
        have hkp : kp drK DR.l rows (j + 1) = rows.take (j + 1) := kp_all (by omega) hF
        have hkp2 : kp drK DR.l rows (j + 1 + 1) = rows.take (j + 1) := by rw [kp_dup hd, hkp]
        repeat ((fail_if_success refine c_probe (id := 9) ?_); (fail_if_success refine c_probe1 (id := 9) ?_); first | refine l_val rfl rfl (v_sliceL rfl rfl rfl rfl rfl (by omega) (by omega)) ?_ | refine l_val rfl rfl (by first | exact pureEval_ok rfl  | fail) ?_ | refine l_nil ?_ | refine c_region ?_ | refine c_seq ?_ | refine x_then ?_ | refine c_true rfl ?_ | refine c_block ?_ | refine e_nil rfl ?_  | fail)
        refine c_loop (ι := Nat × Nat) (fun m => 1 ≤ m.1 ∧ j + 1 + m.1 ≤ rows.length ∧ (kp drK DR.l rows (j + 1 + m.1)).length = m.2 ∧ m.2 + 1 ≤ j + 1 + m.1)
          (fun m => [(0, .slice (some ⟨b, 0, none⟩) rows.length cap), (1, .func (.func 78) ⟨[]⟩ ⟨[]⟩), (5, .int .i64 (m.2 : Nat)), (6, .slice (some ⟨b, 0 + (j + 1) * 3, none⟩) (rows.length - (j + 1)) (cap - (j + 1))), (7, .int .i64 (m.1 : Nat))])
          (fun m => [(b, .cells ⟨((kp drK DR.l rows (j + 1 + m.1) ++ rows.drop m.2).map drE).flatten ++ rest⟩ 57 (0, 0))]) (fun m => rows.length - m.1) (1, j + 1) ⟨Nat.le_refl _, by omega, by rw [hkp2, List.length_take]; omega, by omega⟩ (by repeat (first | exact EnvSub.nil | refine EnvSub.cons rfl (by first | rfl | (congr 1; done) | (exact congrArg (Value.int _) (by omega)) | (simp; done)) ?_)) (by rw [hkp2, List.take_append_drop]; exact MSub.refl _) ?_
        rintro ⟨m, k⟩ ⟨hm1, hm2, hm3, hm4⟩
        simp only at hm1 hm2 hm3 hm4 ⊢
        have hls : (kp drK DR.l rows (j + 1 + m) ++ rows.drop k).length = rows.length := by rw [List.length_append, hm3, List.length_drop]; omega
        by_cases hmt : m < rows.length - (j + 1)
        · have hat : ∀ i r, k ≤ i → rows[i]? = some r → (kp drK DR.l rows (j + 1 + m) ++ rows.drop k)[i]? = some r := fun i r hi hr => by
            rw [List.getElem?_append_right (by omega), hm3, List.getElem?_drop, show k + (i - k) = i by omega, hr]
          obtain ⟨y2, hy2⟩ : ∃ y, rows[j + 1 + m]? = some y := ⟨_, List.getElem?_eq_getElem (by omega)⟩
          obtain ⟨x2, hx2⟩ : ∃ x, rows[j + m]? = some x := ⟨_, List.getElem?_eq_getElem (by omega)⟩
          have hym2 := List.mem_of_getElem? hy2
          have hxm2 := List.mem_of_getElem? hx2
          have hd2 := dup_at (k := drK) (l := DR.l) (m := j + m) (by rw [show j + m + 1 = j + 1 + m by omega]; exact hy2) hx2
          rw [show j + m + 1 = j + 1 + m by omega] at hd2
          have hr1 : RowAt (((kp drK DR.l rows (j + 1 + m) ++ rows.drop k).map drE).flatten ++ rest) (0 + (j + 1) * 3 + m * 3) (drE y2) := by
            rw [show 0 + (j + 1) * 3 + m * 3 = (j + 1 + m) * 3 by omega]; exact dr_at (hat _ _ (by omega) hy2)
          have hr2 : RowAt (((kp drK DR.l rows (j + 1 + m) ++ rows.drop k).map drE).flatten ++ rest) (0 + (j + 1) * 3 + ((m : Int) - 1).toNat * 3) (drE x2) := by
            rw [show 0 + (j + 1) * 3 + ((m : Int) - 1).toNat * 3 = (j + m) * 3 by omega]; exact dr_at (hat _ _ (by omega) hx2)
          repeat ((fail_if_success refine c_probe (id := 11) ?_); (fail_if_success refine c_probe1 (id := 11) ?_); first | refine l_val rfl rfl (by first | exact pureEval_ok rfl  | fail) ?_ | refine l_nil ?_ | refine c_region ?_ | refine c_seq ?_ | refine x_then ?_ | refine c_dec_t rfl (by first | omega  | fail) ?_ | refine c_block ?_ | refine c_skip ?_  | fail)
          repeat refine c_seq ?_
          refine c_new 0 0 [(10, .cal (.bool (eqR drK DR.l y2 x2)))] [(10, [])] [] rfl (by decide +kernel) rfl ?_
          repeat (first | refine e_val rfl rfl rfl rfl (by first | exact v_sub rfl rfl (by omega) (by omega) | exact pureEval_ok rfl | exact v_index rfl rfl rfl rfl (by omega) (by omega) (by with_reducible first | exact idx4 _ _ _  | exact idx8 _ _ _   | fail) | exact v_load_row rfl (by repeat (first | exact List.Mem.head _ | apply List.Mem.tail)) rfl rfl (by first | assumption  | fail) rfl  | fail) ?_  | fail)
          refine e_callv rfl rfl rfl rfl rfl rfl rfl (fun W hW => same_calls y2 x2 n (hl y2 hym2) (hl x2 hxm2) hn W (hkn hym2 hW) (hkn hxm2 hW)) ?_
          cases he2 : eqR drK DR.l y2 x2 with
          | true =>
            rw [he2] at hd2
            have hk3 := kp_dup hd2
            repeat (first | refine l_val rfl rfl (by first | exact v_add rfl rfl (by omega) (by omega) | exact pureEval_ok rfl  | fail) ?_ | refine l_nil ?_ | refine c_region ?_ | refine x_then ?_ | refine c_false rfl ?_ | refine c_skip ?_ | refine x_block ?_ | refine e_val rfl rfl rfl rfl (by first | exact pureEval_ok rfl  | fail) ?_ | refine e_nil rfl ?_  | fail)
            refine x_back (m + 1, k) ⟨by simp only; omega, by simp only; omega, ?_, by simp only; omega⟩ (by simp only; omega) (by repeat (first | exact EnvSub.nil | refine EnvSub.cons rfl (by first | rfl | (congr 1; done) | (exact congrArg (Value.int _) (by omega)) | (simp; done)) ?_)) (by simp only; rw [← Nat.add_assoc, hk3]; exact MSub.refl _)
            simp only
            rw [← Nat.add_assoc, hk3]; exact hm3
          | false =>
            rw [he2] at hd2
            have hk3 := kp_new hd2 hy2
            repeat (first | refine l_val rfl rfl (by first | exact pureEval_ok rfl | exact v_index rfl rfl rfl rfl (by omega) (by omega) (by with_reducible first | exact idx3 _ _  | exact idx4 _ _ _   | fail) | exact v_load_row rfl (by repeat (first | exact List.Mem.head _ | apply List.Mem.tail)) rfl rfl (by first | assumption  | fail) rfl  | fail) ?_ | refine c_region ?_ | refine c_seq ?_ | refine x_then ?_ | refine c_true rfl ?_ | refine e_val rfl rfl rfl rfl (by first | exact pureEval_ok rfl  | fail) ?_ | refine e_nil rfl ?_  | fail)
            refine r_store (cs' := ((kp drK DR.l rows (j + 1 + m + 1) ++ rows.drop (k + 1)).map drE).flatten ++ rest) rfl rfl rfl rfl rfl rfl rfl (by repeat (first | exact Upd.head | apply Upd.tail)) ?_ ?_
            · show putK _ _ (drE y2) some = _
              rw [dr_put (r := y2) (by rw [hls]; omega), hk3]
              congr 4
              rw [List.set_append_right _ _ (by omega), hm3, Nat.sub_self, List.drop_eq_getElem_cons (show k < rows.length by omega), List.set_cons_zero, List.append_assoc]; rfl
            repeat (first | refine l_val rfl rfl (by first | exact v_add rfl rfl (by omega) (by omega) | exact pureEval_ok rfl  | fail) ?_ | refine l_nil ?_ | refine c_region ?_ | refine x_then ?_ | refine x_block ?_  | fail)
            refine x_back (m + 1, k + 1) ⟨by simp only; omega, by simp only; omega, ?_, by simp only; omega⟩ (by simp only; omega) (by repeat (first | exact EnvSub.nil | refine EnvSub.cons rfl (by first | rfl | (congr 1; done) | (exact congrArg (Value.int _) (by omega)) | (simp; done)) ?_)) (by simp only; rw [← Nat.add_assoc]; exact MSub.refl _)
            simp only
            rw [← Nat.add_assoc, hk3, List.length_append, hm3]; rfl
        · have hme : j + 1 + m = rows.length := by omega
          rw [hme] at hm3 hls ⊢
          repeat (first | refine l_val rfl rfl (by first | exact pureEval_ok rfl  | fail) ?_ | refine l_nil ?_ | refine c_region ?_ | refine c_seq ?_ | refine x_then ?_ | refine c_dec_f rfl (by first | omega  | fail) ?_ | refine c_exit ?_ | refine x_then_exit ?_ | refine x_block_same ?_ | refine l_val rfl rfl (v_sliceL rfl rfl rfl rfl rfl (by omega) (by omega)) ?_  | fail)
          have hkl2 : k ≤ rows.length := by omega
          have hfl : ((kp drK DR.l rows rows.length ++ rows.drop k).map drE).flatten ++ rest = ((kp drK DR.l rows rows.length).map drE).flatten ++ (((rows.drop k).map drE).flatten ++ rest) := by
            rw [List.map_append, List.flatten_append, List.append_assoc]
          have hl1 : ((kp drK DR.l rows rows.length).map drE).flatten.length = k * 3 := by rw [dr_rows, hm3]
          have hl2 : ((rows.drop k).map drE).flatten.length = (rows.length - k) * 3 := by rw [dr_rows, List.length_drop]
          refine r_clear rfl rfl rfl rfl rfl rfl (fun _ => Upd.head) (by rw [List.length_append, dr_rows, hls]; omega) (fun zs hz => ?_)
          have hsp : splice (((kp drK DR.l rows rows.length ++ rows.drop k).map drE).flatten ++ rest) (0 + k * 3) zs = ((kp drK DR.l rows rows.length).map drE).flatten ++ (zs ++ rest) := by
            rw [hfl, Nat.zero_add]
            unfold splice
            rw [← hl1, List.take_left, List.drop_append, List.drop_of_length_le (by omega), List.nil_append, Nat.add_sub_cancel_left, List.drop_append, List.drop_of_length_le (by rw [hl2, hz]; exact Nat.le_refl _), hl2, hz, Nat.sub_self, List.drop_zero, List.nil_append, List.append_assoc]
          rw [hsp]
          repeat (first | refine l_val rfl rfl (by first | exact pureEval_ok rfl  | fail) ?_ | refine l_nil ?_ | refine c_region ?_ | refine c_seq ?_ | refine x_then ?_ | refine c_ret ?_ | refine x_then_ret ?_ | refine x_block_ret ?_ | refine l_val rfl rfl (v_sliceH rfl rfl rfl rfl rfl (by omega)) ?_  | fail)
          have hgl := hgr.all
          rw [List.length_append, dr_rows] at hgl
          rw [← hm3]
          exact x_ret rfl rfl (by repeat (first | exact Res.nil | (apply Res.tmp; rfl) | (apply Res.cell; rfl; exact (by repeat (first | exact List.Mem.head _ | apply List.Mem.tail)); rfl; rfl))) rfl (fun W hW => ⟨⟨zs ++ rest, ⟨dr_rows _, by rw [List.length_append, List.length_append, dr_rows, hz, hm3]; omega, by omega, hcm⟩⟩, rfl, hW⟩)
    · have hkr : k = rows.length := by omega
      subst hkr
      have hk2 : kp drK DR.l rows rows.length = rows := by rw [kp_all (Nat.le_refl _) hF, List.take_length]
      rw [hk2]
      repeat (first | refine l_val rfl rfl (by first | exact pureEval_ok rfl  | fail) ?_ | refine l_nil ?_ | refine c_region ?_ | refine c_seq ?_ | refine x_then ?_ | refine c_dec_f rfl (by first | omega  | fail) ?_ | refine c_ret ?_ | refine c_exit ?_ | refine x_then_exit ?_ | refine x_block_same ?_  | fail)
      exact x_ret rfl rfl (by repeat (first | exact Res.nil | (apply Res.tmp; rfl) | (apply Res.cell; rfl; exact (by repeat (first | exact List.Mem.head _ | apply List.Mem.tail)); rfl; rfl))) rfl (fun W hW => ⟨⟨rest, hgr⟩, rfl, hW⟩)
end R24
end Go.Proofs

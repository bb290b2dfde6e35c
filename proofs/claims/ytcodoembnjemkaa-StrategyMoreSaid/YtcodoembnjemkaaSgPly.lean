/- Lists of numbers: what is of a kind is taken out. -/
import Derived.Test.YtcodoembnjemkaaSgPa
import Derived.Test.YtcodoembnjemkaaCtMath
import Derived.Test.YtcodoembnjemkaaGenCell
set_option linter.unusedSectionVars false
set_option linter.unusedVariables false
set_option linter.unusedSimpArgs false
namespace Go.Proofs
open Go.RowKit Go.Kin Go.Kin.St Go.Kin.Ct Go.Kin.Sg
namespace R24
theorem flI_map {l : List Int} : flI l = l.map fun x => Value.int .i64 x := by
  unfold flI
  induction l with
  | nil => rfl
  | cons x l ih => rw [List.map_cons, List.flatten_cons, ih]; rfl
set_option maxRecDepth 100000 in
set_option maxHeartbeats 100000000 in
theorem delete_calls (g : Nat) [Ent Try.prog g] (fs cs : List Value) (p : Int → Bool) (b cap : Nat) (l : List Int) (rest : List Value) (w : World) (hgr : Grow 1 l.length (flI l) cap rest) (hl : l.length ≤ 1000) (hb : w.heap[b]? = some (.cells ⟨flI l ++ rest⟩ 3 (0, 0)))
    (hp : ∀ x ∈ l, ∀ W, Same (allBut w [b]) w W → Calls Try.prog g ⟨fs ++ [.int .i64 x] ++ cs⟩ W fun e w' => e = .returned (.bool (p x)) ∧ Below W.heap.size W w') :
    Calls Try.prog 30 ⟨[.slice (some ⟨b, 0, none⟩) l.length cap, .func (.func g) ⟨fs⟩ ⟨cs⟩]⟩ w
      (FrQ [(b, .cells ⟨flI l ++ rest⟩ 3 (0, 0))] (fun _ : { r : List Value // Grow 1 (l.filter fun x => !p x).length (flI (l.filter fun x => !p x)) cap r } => .slice (some ⟨b, 0, none⟩) (l.filter fun x => !p x).length cap) (fun i => [(b, .cells ⟨flI (l.filter fun x => !p x) ++ i.1⟩ 3 (0, 0))]) w) := by
  have hsat : SatW w (allBut w ([(b, Obj.cells ⟨flI l ++ rest⟩ 3 (0, 0))].map (·.1))) noJ [(b, Obj.cells ⟨flI l ++ rest⟩ 3 (0, 0))] w := frQ_start (by simp) (by simpa using hb)
  have hcl := hgr.le
  have hcm := hgr.max
  have hat : ∀ {mem : List (Nat × Obj)} {W : World}, SatW w (allBut w [b]) noJ mem W → (b, Obj.cells ⟨flI l ++ rest⟩ 3 (0, 0)) ∈ mem → At W (some ⟨b, 0, none⟩) 1 (l.map inE) := fun {mem W} hW hm k vs hk => by
    refine ⟨b, 0, rfl, fun j v hj => ?_⟩
    rw [List.getElem?_map] at hk
    obtain ⟨y, hy, rfl⟩ := Option.map_eq_some_iff.1 hk
    cases j with
    | succ j => cases hj
    | zero =>
      cases hj
      rw [show 0 + k * 1 + 0 = k by omega, hW.cellAt hm]
      exact flI_get hy _
  refine fun_enter Try.func30 rfl Try.ntmps30 rfl rfl hsat ?_
  repeat (first | refine l_val rfl rfl (by first | exact pureEval_ok rfl  | fail) ?_ | refine l_nil ?_ | refine c_region ?_ | refine c_seq ?_ | refine x_then ?_  | fail)
  refine r_callI (ι := IdxOf p l) (v := fun r => .int .i64 r.r) rfl rfl rfl (fun W hW => indexF_calls g fs cs p (some ⟨b, 0, none⟩) cap l W (hat hW (by repeat (first | exact List.Mem.head _ | apply List.Mem.tail))) (by omega) fun x hx W' hW' => hp x hx W' (hW.same.trans (Same.of_below_all hW'))) (fun r => ?_)
  rcases r.ok with ⟨hr, hno⟩ | ⟨i, hr, hil, hF, y, hy, hpy⟩
  · have hf : (l.filter fun x => !p x) = l := List.filter_eq_self.2 fun x hx => by rw [hno x hx]; rfl
    rw [hr, hf]
    repeat (first | refine l_val rfl rfl (by first | exact pureEval_ok rfl  | fail) ?_ | refine l_nil ?_ | refine c_region ?_ | refine c_seq ?_ | refine x_then ?_ | refine c_true rfl ?_ | refine c_ret ?_ | refine x_then_ret ?_  | fail)
    exact x_ret rfl rfl (by repeat (first | exact Res.nil | (apply Res.tmp; rfl) | (apply Res.cell; rfl; exact (by repeat (first | exact List.Mem.head _ | apply List.Mem.tail)); rfl; rfl))) rfl (fun W hW => ⟨⟨rest, hgr⟩, rfl, hW⟩)
  · rw [hr]
    have hri : (i : Int) ≠ -1 := by omega
    obtain ⟨q, hq⟩ : ∃ q : Int → Bool, q = fun x => !p x := ⟨_, rfl⟩
    have hf0 : (l.take (i + 1)).filter q = l.take i := by
      rw [List.take_add_one, hy, List.filter_append, List.filter_eq_self.2 fun x hx => by rw [hq]; simp [hF x hx]]
      simp [hq, hpy]
    rw [← hq]
    refine l_part [] (mem' := [(b, .cells ⟨flI ((l.take (i + 1)).filter q ++ l.drop ((l.take (i + 1)).filter q).length) ++ rest⟩ 3 (0, 0))]) (List.Perm.of_eq (by rw [hf0, List.length_take, show min i l.length = i by omega, List.take_append_drop]; rfl)) ?_
    repeat (first | refine l_val rfl rfl (by first | exact v_add rfl rfl (by omega) (by omega) | exact pureEval_ok rfl  | fail) ?_ | refine l_nil ?_ | refine c_region ?_ | refine c_seq ?_ | refine x_then ?_ | refine c_false rfl ?_ | refine c_block ?_ | refine c_skip ?_  | fail)
    refine c_loop (ι := Nat) (fun j => i + 1 ≤ j ∧ j ≤ l.length ∧ ((l.take j).filter q).length + 1 ≤ j) (fun j => [(0, .slice (some ⟨b, 0, none⟩) l.length cap), (1, .func (.func g) ⟨fs⟩ ⟨cs⟩), (5, .int .i64 ((l.take j).filter q).length), (6, .int .i64 j)])
      (fun j => [(b, .cells ⟨flI ((l.take j).filter q ++ l.drop ((l.take j).filter q).length) ++ rest⟩ 3 (0, 0))]) (fun j => l.length - j) (i + 1) ⟨Nat.le_refl _, by omega, by rw [hf0, List.length_take]; omega⟩
      (by
        have hlen : ((l.take (i + 1)).filter q).length = i := by rw [hf0, List.length_take]; omega
        rw [hlen]
        exact (by repeat (first | exact EnvSub.nil | refine EnvSub.cons rfl (by first | rfl | (congr 1; done) | (exact congrArg (Value.int _) (by omega)) | (simp; done)) ?_))) (MSub.refl _) ?_
    rintro j ⟨hj1, hj2, hj3⟩
    obtain ⟨out, hout⟩ : ∃ out, (l.take j).filter q = out := ⟨_, rfl⟩
    rw [hout] at hj3 ⊢
    by_cases hlt : j < l.length
    · obtain ⟨x, hx⟩ : ∃ x, l[j]? = some x := ⟨_, List.getElem?_eq_getElem hlt⟩
      have hxm := List.mem_of_getElem? hx
      have hcx : (flI (out ++ l.drop out.length) ++ rest)[j]? = some (.int .i64 x) := flI_get (by rw [List.getElem?_append_right (by omega), List.getElem?_drop, show out.length + (j - out.length) = j by omega, hx]) rest
      repeat (first | refine l_val rfl rfl (by first | exact pureEval_ok rfl | exact v_index rfl rfl rfl rfl (by omega) (by omega) (by with_reducible first | exact idx1 _   | fail) | exact v_load_at rfl (by repeat (first | exact List.Mem.head _ | apply List.Mem.tail)) rfl rfl (by first | assumption  | fail)  | fail) ?_ | refine l_nil ?_ | refine c_region ?_ | refine c_seq ?_ | refine x_then ?_ | refine c_dec_t rfl (by first | omega  | fail) ?_ | refine c_block ?_ | refine c_skip ?_  | fail)
      refine r_callv rfl rfl rfl rfl rfl (fun W hW => hp x hxm W hW.same) ?_
      cases hpx : p x with
      | true =>
        have hn : (l.take (j + 1)).filter q = out := by
          rw [List.take_add_one, hx, List.filter_append, hout]; simp [hq, hpx]
        repeat (first | refine l_val rfl rfl (by first | exact v_add rfl rfl (by omega) (by omega) | exact pureEval_ok rfl  | fail) ?_ | refine l_nil ?_ | refine c_region ?_ | refine x_then ?_ | refine c_false rfl ?_ | refine c_skip ?_ | refine x_block ?_  | fail)
        exact x_back (j + 1) ⟨by omega, hlt, by rw [hn]; omega⟩ (by omega) (by rw [hn]; exact (by repeat (first | exact EnvSub.nil | refine EnvSub.cons rfl (by first | rfl | (congr 1; done) | (exact congrArg (Value.int _) (by omega)) | (simp; done)) ?_))) (by rw [hn]; exact MSub.refl _)
      | false =>
        have hn : (l.take (j + 1)).filter q = out ++ [x] := by
          rw [List.take_add_one, hx, List.filter_append, hout]; simp [hq, hpx]
        have hst : (flI (out ++ l.drop out.length) ++ rest).set out.length (.int .i64 x) = flI ((out ++ [x]) ++ l.drop (out.length + 1)) ++ rest := by
          rw [flI_map, flI_map, List.set_append_left _ _ (by simp; omega), List.map_append, List.set_append_right _ _ (by simp), List.length_map, Nat.sub_self, List.drop_eq_getElem_cons (show out.length < l.length by omega), List.map_cons, List.set_cons_zero]
          simp
        repeat (first | refine r_store_at rfl rfl rfl rfl rfl rfl (by repeat (first | exact Upd.head | apply Upd.tail)) (by rw [List.length_append, flI_map, List.length_map, List.length_append, List.length_drop]; omega) hst ?_ | refine l_val rfl rfl (by first | exact v_add rfl rfl (by omega) (by omega) | exact pureEval_ok rfl | exact v_index rfl rfl rfl rfl (by omega) (by omega) (by with_reducible first | exact idx1 _   | fail)  | fail) ?_ | refine l_nil ?_ | refine c_region ?_ | refine c_seq ?_ | refine x_then ?_ | refine c_true rfl ?_ | refine x_block ?_  | fail)
        exact x_back (j + 1) ⟨by omega, hlt, by rw [hn, List.length_append, List.length_cons, List.length_nil]; omega⟩ (by omega) (by rw [hn, List.length_append]; exact (by repeat (first | exact EnvSub.nil | refine EnvSub.cons rfl (by first | rfl | (congr 1; done) | (exact congrArg (Value.int _) (by omega)) | (simp; done)) ?_))) (by rw [hn, List.length_append]; exact MSub.refl _)
    · have hjl : j = l.length := by omega
      subst hjl
      rw [List.take_length] at hout
      rw [hout]
      have hkl : out.length < l.length := by omega
      have hl1 : (flI out).length = out.length := by rw [flI_map, List.length_map]
      have hl2 : (flI (l.drop out.length)).length = l.length - out.length := by rw [flI_map, List.length_map, List.length_drop]
      have hfl : flI (out ++ l.drop out.length) ++ rest = flI out ++ (flI (l.drop out.length) ++ rest) := by rw [flI_map, flI_map, flI_map, List.map_append, List.append_assoc]
      repeat (first | refine l_val rfl rfl (by first | exact pureEval_ok rfl  | fail) ?_ | refine l_nil ?_ | refine c_region ?_ | refine c_seq ?_ | refine x_then ?_ | refine c_dec_f rfl (by first | omega  | fail) ?_ | refine c_exit ?_ | refine x_then_exit ?_ | refine x_block_same ?_ | refine l_val rfl rfl (v_sliceL rfl rfl rfl rfl rfl (by omega) (by omega)) ?_  | fail)
      refine r_clear rfl rfl rfl rfl rfl rfl (fun _ => Upd.head) (by rw [hfl, List.length_append, List.length_append, hl1, hl2]; omega) (fun zs hz => ?_)
      have hsp : splice (flI (out ++ l.drop out.length) ++ rest) (0 + out.length * 1) zs = flI out ++ (zs ++ rest) := by
        rw [hfl, Nat.zero_add, Nat.mul_one]
        have hd : (flI out ++ (flI (l.drop out.length) ++ rest)).drop (out.length + zs.length) = rest := by
          rw [hz, ← List.append_assoc, Nat.mul_one]
          exact List.drop_left' (by rw [List.length_append, hl1, hl2])
        have ht : (flI out ++ (flI (l.drop out.length) ++ rest)).take out.length = flI out := List.take_left' hl1
        unfold splice
        rw [hd, ht, List.append_assoc]
      rw [hsp]
      repeat (first | refine l_val rfl rfl (by first | exact pureEval_ok rfl  | fail) ?_ | refine l_nil ?_ | refine c_region ?_ | refine c_seq ?_ | refine x_then ?_ | refine c_ret ?_ | refine l_val rfl rfl (v_sliceH rfl rfl rfl rfl rfl (by omega)) ?_  | fail)
      have hgl := hgr.all
      have hll : (flI l).length = l.length := by rw [flI_map, List.length_map]
      rw [List.length_append, hll] at hgl
      exact x_ret rfl rfl (by repeat (first | exact Res.nil | (apply Res.tmp; rfl) | (apply Res.cell; rfl; exact (by repeat (first | exact List.Mem.head _ | apply List.Mem.tail)); rfl; rfl))) rfl (fun W hW => ⟨⟨zs ++ rest, ⟨by rw [hl1]; omega, by rw [List.length_append, List.length_append, hl1, hz]; omega, by omega, hcm⟩⟩, rfl, hW⟩)
end R24
end Go.Proofs

set_option linter.unusedSectionVars false
set_option linter.unusedVariables false
set_option linter.unusedSimpArgs false
namespace Go.Kin.Sg
open Go.Kin.St Go.Kin.Ct
theorem wt_some {C : List Lk} {k : Int} {f : Nat → Int} {q : Nat} {m : Int} {x : Lk} (h : wtF C k f q = some (m, x)) : lnk C q = some x ∧ f q = 0 ∧ f x.fr.toNat ≠ 0 ∧ m = k + 1 - f x.fr.toNat := by
  unfold wtF at h
  cases hl : lnk C q with
  | none => rw [hl] at h; cases h
  | some y =>
    rw [hl] at h
    simp only at h
    by_cases hc : f q = 0 ∧ f y.fr.toNat ≠ 0
    · rw [if_pos hc] at h
      simp only [Option.some.injEq, Prod.mk.injEq] at h
      obtain ⟨h1, rfl⟩ := h
      exact ⟨rfl, hc.1, hc.2, h1.symm⟩
    · rw [if_neg hc] at h; cases h
theorem wt_of {C : List Lk} {k : Int} {f : Nat → Int} {q : Nat} {x : Lk} (h1 : lnk C q = some x) (h2 : f q = 0) (h3 : f x.fr.toNat ≠ 0) : wtF C k f q = some (k + 1 - f x.fr.toNat, x) := by
  unfold wtF; rw [h1]; exact if_pos ⟨h2, h3⟩
theorem mayB_iff {G : Gm} {k : Nat} {l : List Int} {q : Nat} : mayB G k l q = true ↔ ∃ x, lnk G.C q = some x ∧ kn l q = 0 ∧ kn l x.fr.toNat ≠ 0 ∧ x.lo ≤ k + 1 - kn l x.fr.toNat ∧ (k : Int) + 1 - kn l x.fr.toNat ≤ x.hi := by
  unfold mayB mayF
  constructor
  · intro h
    cases hw : wtF G.C k (kn l) q with
    | none => rw [hw] at h; cases h
    | some p =>
      obtain ⟨m, x⟩ := p
      rw [hw] at h
      obtain ⟨h1, h2, h3, rfl⟩ := wt_some hw
      simp only [Bool.and_eq_true, decide_eq_true_eq] at h
      exact ⟨x, h1, h2, h3, h.1, h.2⟩
  · rintro ⟨x, h1, h2, h3, h4, h5⟩
    rw [wt_of h1 h2 h3]
    simp only [Bool.and_eq_true, decide_eq_true_eq]
    exact ⟨h4, h5⟩
theorem dueB_iff {G : Gm} {k : Nat} {l : List Int} {q : Nat} : dueB G k l q = true ↔ ∃ x, lnk G.C q = some x ∧ kn l q = 0 ∧ kn l x.fr.toNat ≠ 0 ∧ x.lo ≤ k + 1 - kn l x.fr.toNat ∧ (k : Int) + 1 - kn l x.fr.toNat = x.hi := by
  unfold dueB dueF
  constructor
  · intro h
    cases hw : wtF G.C k (kn l) q with
    | none => rw [hw] at h; cases h
    | some p =>
      obtain ⟨m, x⟩ := p
      rw [hw] at h
      obtain ⟨h1, h2, h3, rfl⟩ := wt_some hw
      simp only [Bool.and_eq_true, decide_eq_true_eq] at h
      exact ⟨x, h1, h2, h3, h.1, h.2⟩
  · rintro ⟨x, h1, h2, h3, h4, h5⟩
    rw [wt_of h1 h2 h3]
    simp only [Bool.and_eq_true, decide_eq_true_eq]
    exact ⟨h4, h5⟩
theorem may_mem {G : Gm} {k : Nat} {l : List Int} {q : Nat} : q ∈ may G k l ↔ q < G.n ∧ mayB G k l q = true := by unfold may; rw [List.mem_filter, List.mem_range]
theorem due_mem {G : Gm} {k : Nat} {l : List Int} {q : Nat} : q ∈ due G k l ↔ q < G.n ∧ dueB G k l q = true := by unfold due; rw [List.mem_filter, List.mem_range]
/-! ## More ticks -/
theorem kept_V {G : Gm} {l : List Int} (h : keptP G l) : ∀ f k, V G f k l
  | 0, _ => h
  | f + 1, k => fun S hS => by
    have hm : may G k l = [] := List.eq_nil_iff_forall_not_mem.2 fun q hq => by
      obtain ⟨h1, h2⟩ := may_mem.1 hq
      obtain ⟨x, _, h3, _⟩ := mayB_iff.1 h2
      exact h.1 q h1 h3
    have hs : S = [] := List.eq_nil_of_subset_nil (by have := hS.1.subset; rwa [hm] at this)
    subst hs
    exact ⟨[], List.nil_sublist _, kept_V h f (k + 1)⟩
theorem V_succ {G : Gm} : ∀ {f k : Nat} {l : List Int}, V G f k l → V G (f + 1) k l
  | 0, k, l, h => kept_V h 1 k
  | f + 1, k, l, h => fun S hS => by
    obtain ⟨D, h1, h2⟩ := h S hS
    exact ⟨D, h1, V_succ h2⟩
theorem V_add {G : Gm} {f k : Nat} {l : List Int} (h : V G f k l) : ∀ m, V G (f + m) k l
  | 0 => h
  | m + 1 => V_succ (V_add h m)
/-! ## Wider links, narrower called links -/
/-- a link is wider -/
def Wid (x y : Lk) : Prop := y.fr = x.fr ∧ y.to = x.to ∧ y.lo ≤ x.lo ∧ x.hi ≤ y.hi
/-- a called link is narrower -/
def Nar (x y : Lk) : Prop := y.fr = x.fr ∧ y.to = x.to ∧ x.lo ≤ y.lo ∧ y.hi ≤ x.hi ∧ 1 ≤ y.lo ∧ y.lo ≤ y.hi
inductive All2 {α β : Type} (R : α → β → Prop) : List α → List β → Prop
  | nil : All2 R [] []
  | cons {x y l m} : R x y → All2 R l m → All2 R (x :: l) (y :: m)
theorem All2.get {α β : Type} {R : α → β → Prop} {l : List α} {m : List β} (h : All2 R l m) : ∀ {i : Nat} {y : β}, m[i]? = some y → ∃ x, l[i]? = some x ∧ R x y := by
  induction h with
  | nil => intro i y hy; simp at hy
  | @cons a b l m h1 h2 ih =>
    intro i y hy
    cases i with
    | zero => simp only [List.getElem?_cons_zero, Option.some.injEq] at hy; subst hy; exact ⟨a, rfl, h1⟩
    | succ i => simp only [List.getElem?_cons_succ] at hy ⊢; exact ih hy
theorem nar_into {C C' : List Lk} (h : All2 Nar C C') (p : Int) : into C' p = into C p := by
  induction h with
  | nil => rfl
  | @cons x y l m h1 h2 ih => rw [into, into, h1.2.1, ih]
theorem nar_lnk {C C' : List Lk} (h : All2 Nar C C') {q : Nat} {y : Lk} (hy : lnk C' q = some y) : ∃ x, lnk C q = some x ∧ Nar x y := by
  unfold lnk at hy ⊢
  rw [nar_into h] at hy
  cases hi : into C (q : Int) with
  | none => rw [hi] at hy; cases hy
  | some i =>
    rw [hi] at hy
    exact h.get hy
theorem nar_lnk' {C C' : List Lk} (h : All2 Nar C C') {q : Nat} {x : Lk} (hx : lnk C q = some x) : ∃ y, lnk C' q = some y ∧ Nar x y := by
  unfold lnk at hx ⊢
  rw [nar_into h]
  cases hi : into C (q : Int) with
  | none => rw [hi] at hx; cases hx
  | some i =>
    rw [hi] at hx
    replace hx : C[i]? = some x := hx
    show ∃ y, C'[i]? = some y ∧ Nar x y
    clear hi
    induction h generalizing i with
    | nil => simp at hx
    | @cons a b l m h1 h2 ih =>
      cases i with
      | zero => simp only [List.getElem?_cons_zero, Option.some.injEq] at hx; subst hx; exact ⟨b, rfl, h1⟩
      | succ i => simp only [List.getElem?_cons_succ] at hx ⊢; exact ih i hx
/-- no called point is late -/
def Late (n : Nat) (C : List Lk) (k : Nat) (l : List Int) : Prop := l.length = n ∧ ∀ q x, q < n → lnk C q = some x → kn l q = 0 → kn l x.fr.toNat ≠ 0 → (k : Int) + 1 - kn l x.fr.toNat ≤ x.hi
theorem late_put {n : Nat} {C : List Lk} {k : Nat} {l : List Int} {S D : List Nat} {T : Nat} {L : List Lk} (hC : ∀ q x, lnk C q = some x → 1 ≤ x.lo ∧ x.lo ≤ x.hi ∧ x.fr.toNat < n) (h : Late n C k l) (hS : Ch ⟨n, T, L, C⟩ k l S) :
    Late n C (k + 1) (put (put l S (k + 1)) D (k + 1)) := by
  refine ⟨by rw [put_len, put_len, h.1], fun q x hq hx h0 hf => ?_⟩
  obtain ⟨c1, c2, c3⟩ := hC q x hx
  have hl := h.1
  rw [put_kn (by rw [put_len]; omega), put_kn (by omega)] at h0 hf ⊢
  have hqS : q ∉ S := fun hm => by
    by_cases hD : q ∈ D
    · rw [if_pos hD] at h0; omega
    · rw [if_neg hD, if_pos hm] at h0; omega
  have hqD : q ∉ D := fun hm => by rw [if_pos hm] at h0; omega
  rw [if_neg hqD, if_neg hqS] at h0
  by_cases hfD : x.fr.toNat ∈ D
  · rw [if_pos hfD]; push_cast; omega
  · rw [if_neg hfD] at hf ⊢
    by_cases hfS : x.fr.toNat ∈ S
    · rw [if_pos hfS]; push_cast; omega
    · rw [if_neg hfS] at hf ⊢
      have h1 := h.2 q x hq hx h0 hf
      have h2 : (k : Int) + 1 - kn l x.fr.toNat ≠ x.hi := fun e => hqS (hS.2 q (due_mem.2 ⟨hq, dueB_iff.2 ⟨x, hx, h0, hf, by omega, e⟩⟩))
      push_cast; omega
theorem filter_sub {α : Type} {p q : α → Bool} : ∀ {l : List α}, (∀ x ∈ l, p x = true → q x = true) → List.Sublist (l.filter p) (l.filter q)
  | [], _ => List.nil_sublist _
  | x :: l, h => by
    have ih := filter_sub (p := p) (q := q) (l := l) fun y hy => h y (List.mem_cons_of_mem _ hy)
    cases hp : p x with
    | true => rw [List.filter_cons_of_pos hp, List.filter_cons_of_pos (h x List.mem_cons_self hp)]; exact ih.cons_cons _
    | false =>
      rw [List.filter_cons_of_neg (by rw [hp]; decide)]
      cases hq : q x with
      | true => rw [List.filter_cons_of_pos hq]; exact ih.cons _
      | false => rw [List.filter_cons_of_neg (by rw [hq]; decide)]; exact ih
theorem V_more {n T T' : Nat} {L L' C C' : List Lk} (hC : ∀ q x, lnk C' q = some x → x.fr.toNat < n) (hL : All2 Wid L L') (hN : All2 Nar C C') :
    ∀ {f k : Nat} {l : List Int}, Late n C' k l → V ⟨n, T, L, C⟩ f k l → V ⟨n, T', L', C'⟩ f k l
  | 0, _, _, _, h => ⟨h.1, fun y hy => by
      obtain ⟨i, hi⟩ := List.getElem?_of_mem hy
      obtain ⟨x, hx, w1, w2, w3, w4⟩ := hL.get hi
      have := h.2 x (List.mem_of_getElem? hx)
      rw [w1, w2]
      omega⟩
  | f + 1, k, l, hi, h => fun S hS => by
    have hC2 : ∀ q x, lnk C' q = some x → 1 ≤ x.lo ∧ x.lo ≤ x.hi ∧ x.fr.toNat < n := fun q y hy => by
      obtain ⟨x, _, w1, w2, w3, w4, w5, w6⟩ := nar_lnk hN hy
      exact ⟨w5, w6, hC q y hy⟩
    have hS2 : Ch ⟨n, T, L, C⟩ k l S := by
      refine ⟨hS.1.trans (filter_sub fun q _ hq => ?_), fun q hq => ?_⟩
      · obtain ⟨y, h1, h2, h3, h4, h5⟩ := mayB_iff.1 hq
        obtain ⟨x, hx, w1, w2, w3, w4, _⟩ := nar_lnk hN h1
        rw [w1] at h3 h4 h5
        exact mayB_iff.2 ⟨x, hx, h2, h3, by omega, by omega⟩
      · obtain ⟨hn, hq⟩ := due_mem.1 hq
        obtain ⟨x, h1, h2, h3, h4, h5⟩ := dueB_iff.1 hq
        obtain ⟨y, hy, w1, w2, w3, w4, w5, w6⟩ := nar_lnk' hN h1
        have hlt := hi.2 q y hn hy h2 (by rw [w1]; exact h3)
        rw [w1] at hlt
        exact hS.2 q (due_mem.2 ⟨hn, dueB_iff.2 ⟨y, hy, h2, by rw [w1]; exact h3, by rw [w1]; omega, by rw [w1]; omega⟩⟩)
    obtain ⟨D, h1, h2⟩ := h S hS2
    refine ⟨D, ?_, V_more hC hL hN (late_put hC2 hi hS) h2⟩
    have e : free ⟨n, T', L', C'⟩ (put l S (k + 1)) = free ⟨n, T, L, C⟩ (put l S (k + 1)) := by
      unfold free
      exact List.filter_congr fun q _ => by rw [nar_into hN]
    rw [e]; exact h1
theorem late_zero {n : Nat} {C : List Lk} : Late n C 0 (List.replicate n 0) := by
  refine ⟨List.length_replicate, fun q x _ _ _ h => absurd ?_ h⟩
  unfold kn
  rw [List.getD_eq_getElem?_getD, List.getElem?_replicate]
  split <;> rfl
/-- the law More, plain -/
theorem Vt_more {n T m : Nat} {L L' C C' : List Lk} (hC : ∀ q x, lnk C' q = some x → x.fr.toNat < n) (hL : All2 Wid L L') (hN : All2 Nar C C') (h : Vt ⟨n, T, L, C⟩ 0 (List.replicate n 0)) : Vt ⟨n, T + m, L', C'⟩ 0 (List.replicate n 0) := by
  have h1 : V ⟨n, T, L, C⟩ (T + 1) 0 (List.replicate n 0) := h
  have h2 := V_add (V_more (T' := T + m) hC hL hN late_zero h1) m
  unfold Vt
  rw [show T + m + 1 - 0 = T + 1 + m by omega]
  exact h2
end Go.Kin.Sg

set_option linter.unusedSectionVars false
set_option linter.unusedVariables false
set_option linter.unusedSimpArgs false
namespace Go.Kin.Sg
open Go.Kin.St Go.Kin.Ct
def ix (C : List Lk) (q : Nat) : Nat := (into C (q : Int)).getD 0
def frO (C : List Lk) (q : Nat) : Nat := (frm C (ix C q)).toNat
/-- the called points that occur at a tick, with durations -/
def occ (G : Gm) (wt : List Int) (k : Nat) (l : List Int) : List Nat := (may G k l).filter fun q => decide ((k : Int) + 1 - kn l (frO G.C q) = wt.getD (ix G.C q) 0)
/-- what the desk does -/
def own (G : Gm) (t : Tab) (k : Nat) (l : List Int) : List Nat := (doD t k l).filter fun q => decide (q ∈ free G l)
def plS (G : Gm) (wt : List Int) (t : Tab) (k : Nat) (l : List Int) : List Int := put (put l (occ G wt k l) (k + 1)) (own G t k (put l (occ G wt k l) (k + 1))) (k + 1)
def plF (G : Gm) (wt : List Int) (t : Tab) : Nat → Nat → List Int → List Int
  | 0, _, l => l
  | f + 1, k, l => plF G wt t f (k + 1) (plS G wt t k l)
def plA (G : Gm) (wt : List Int) (t : Tab) : List Int := plF G wt t (G.T + 1) 0 (List.replicate G.n 0)
/-- what durations a play has met -/
structure Dj (G : Gm) (wt : List Int) (k : Nat) (l : List Int) : Prop where
  len : l.length = G.n
  bd : ∀ q, 0 ≤ kn l q ∧ kn l q ≤ k
  yes : ∀ q i x, q < G.n → into G.C (q : Int) = some i → G.C[i]? = some x → kn l q ≠ 0 → kn l x.fr.toNat ≠ 0 ∧ kn l q = kn l x.fr.toNat + wt.getD i 0
  no : ∀ q i x, q < G.n → into G.C (q : Int) = some i → G.C[i]? = some x → kn l q = 0 → kn l x.fr.toNat ≠ 0 → (k : Int) + 1 - kn l x.fr.toNat ≤ wt.getD i 0
/-- durations are right -/
def Dur (G : Gm) (wt : List Int) : Prop := ∀ i x, G.C[i]? = some x → x.lo ≤ wt.getD i 0 ∧ wt.getD i 0 ≤ x.hi ∧ 1 ≤ x.lo ∧ x.fr.toNat < G.n
theorem lnk_of {C : List Lk} {q i : Nat} {x : Lk} (h1 : into C (q : Int) = some i) (h2 : C[i]? = some x) : lnk C q = some x := by unfold lnk; rw [h1]; exact h2
theorem occ_mem {G : Gm} {wt : List Int} {k : Nat} {l : List Int} {q : Nat} : q ∈ occ G wt k l ↔ q ∈ may G k l ∧ (k : Int) + 1 - kn l (frO G.C q) = wt.getD (ix G.C q) 0 := by
  unfold occ; rw [List.mem_filter, decide_eq_true_eq]
theorem ix_of {C : List Lk} {q i : Nat} {x : Lk} (h1 : into C (q : Int) = some i) (h2 : C[i]? = some x) : ix C q = i ∧ frO C q = x.fr.toNat := by
  have e : ix C q = i := by unfold ix; rw [h1]; rfl
  refine ⟨e, ?_⟩
  unfold frO; rw [e]; unfold frm; rw [h2]
theorem lnk_some {C : List Lk} {q : Nat} {x : Lk} (h : lnk C q = some x) : ∃ i, into C (q : Int) = some i ∧ C[i]? = some x := by
  unfold lnk at h
  cases hi : into C (q : Int) with
  | none => rw [hi] at h; cases h
  | some i => rw [hi] at h; exact ⟨i, rfl, h⟩
theorem occ_ch {G : Gm} {wt : List Int} {k : Nat} {l : List Int} (hw : Dur G wt) (hj : Dj G wt k l) : Ch G k l (occ G wt k l) := by
  refine ⟨List.filter_sublist, fun q hq => occ_mem.2 ⟨due_may hq, ?_⟩⟩
  obtain ⟨hn, h⟩ := due_mem.1 hq
  obtain ⟨x, h1, h2, h3, h4, h5⟩ := dueB_iff.1 h
  obtain ⟨i, g1, g2⟩ := lnk_some h1
  obtain ⟨e1, e2⟩ := ix_of g1 g2
  rw [e1, e2]
  have := hj.no q i x hn g1 g2 h2 h3
  have := hw i x g2
  omega
theorem kn_put_bd {l : List Int} {S : List Nat} {k : Nat} (h : ∀ q, 0 ≤ kn l q ∧ kn l q ≤ k) : ∀ q, 0 ≤ kn (put l S (k + 1)) q ∧ kn (put l S (k + 1)) q ≤ (k : Int) + 1 := fun q => by
  by_cases hq : q < l.length
  · rw [put_kn hq]
    have := h q
    split <;> omega
  · rw [kn_over (by rw [put_len]; omega)]; omega
/-- a step keeps to the durations, where the desk does what is free alone -/
theorem dj_step {G : Gm} {wt : List Int} {k : Nat} {l : List Int} {D : List Nat} (hw : Dur G wt) (hj : Dj G wt k l) (hD : ∀ q ∈ D, q ∈ free G (put l (occ G wt k l) (k + 1))) : Dj G wt (k + 1) (put (put l (occ G wt k l) (k + 1)) D (k + 1)) := by
  obtain ⟨l1, hl1⟩ : ∃ l1, put l (occ G wt k l) ((k : Int) + 1) = l1 := ⟨_, rfl⟩
  have hlen1 : l1.length = G.n := by rw [← hl1, put_len, hj.len]
  have hk1 : ∀ q, q < G.n → kn l1 q = if q ∈ occ G wt k l then (k : Int) + 1 else kn l q := fun q hq => by rw [← hl1, put_kn (by rw [hj.len]; exact hq)]
  have hb1 : ∀ q, 0 ≤ kn l1 q ∧ kn l1 q ≤ (k : Int) + 1 := by rw [← hl1]; exact kn_put_bd hj.bd
  rw [hl1] at hD ⊢
  have hk2 : ∀ q, q < G.n → kn (put l1 D ((k : Int) + 1)) q = if q ∈ D then (k : Int) + 1 else kn l1 q := fun q hq => put_kn (by rw [hlen1]; exact hq)
  have hDC : ∀ (q i : Nat), into G.C (q : Int) = some i → q ∉ D := fun q i h hm => by
    have := (free_mem.1 (hD q hm)).2.1
    rw [h] at this; cases this
  -- what is known stays
  have hst1 : ∀ q, q < G.n → kn l q ≠ 0 → kn l1 q = kn l q := fun q hq h => by
    rw [hk1 q hq, if_neg]
    intro hm
    obtain ⟨x, _, h2, _⟩ := mayB_iff.1 (may_mem.1 (occ_mem.1 hm).1).2
    exact h h2
  have hst2 : ∀ q, q < G.n → kn l1 q ≠ 0 → kn (put l1 D ((k : Int) + 1)) q = kn l1 q := fun q hq h => by
    rw [hk2 q hq, if_neg]
    intro hm
    exact h (free_mem.1 (hD q hm)).2.2
  refine ⟨by rw [put_len, hlen1], fun q => ?_, fun q i x hq h1 h2 h0 => ?_, fun q i x hq h1 h2 h0 hf => ?_⟩
  · by_cases hq : q < G.n
    · rw [hk2 q hq]
      have := hb1 q
      push_cast
      split <;> omega
    · rw [kn_over (by rw [put_len, hlen1]; omega)]; omega
  · have hfn := (hw i x h2).2.2.2
    rw [hk2 q hq, if_neg (hDC q i h1)] at h0 ⊢
    have key : kn l1 x.fr.toNat ≠ 0 ∧ kn l1 q = kn l1 x.fr.toNat + wt.getD i 0 := by
      by_cases hql : kn l q = 0
      · rw [hk1 q hq] at h0 ⊢
        have hm : q ∈ occ G wt k l := Classical.byContradiction fun h => by rw [if_neg h] at h0; exact h0 hql
        rw [if_pos hm]
        obtain ⟨g1, g2⟩ := occ_mem.1 hm
        obtain ⟨x', g3, _, g5, _⟩ := mayB_iff.1 (may_mem.1 g1).2
        rw [lnk_of h1 h2] at g3
        cases g3
        obtain ⟨e1, e2⟩ := ix_of h1 h2
        rw [e1, e2] at g2
        rw [hst1 _ hfn g5]
        exact ⟨g5, by omega⟩
      · obtain ⟨g1, g2⟩ := hj.yes q i x hq h1 h2 hql
        rw [hst1 q hq hql, hst1 _ hfn g1]
        exact ⟨g1, g2⟩
    rw [hst2 _ hfn key.1]
    exact key
  · obtain ⟨w1, w2, w3, hfn⟩ := hw i x h2
    rw [hk2 q hq, if_neg (hDC q i h1)] at h0
    have hqm : q ∉ occ G wt k l := fun hm => by rw [hk1 q hq, if_pos hm] at h0; omega
    have hql : kn l q = 0 := by rw [hk1 q hq, if_neg hqm] at h0; exact h0
    by_cases hfl : kn l x.fr.toNat = 0
    · have : kn (put l1 D ((k : Int) + 1)) x.fr.toNat = (k : Int) + 1 := by
        rw [hk2 _ hfn] at hf ⊢
        by_cases hm : x.fr.toNat ∈ D
        · rw [if_pos hm]
        · rw [if_neg hm] at hf ⊢
          rw [hk1 _ hfn] at hf ⊢
          by_cases hm2 : x.fr.toNat ∈ occ G wt k l
          · rw [if_pos hm2]
          · rw [if_neg hm2] at hf; exact absurd hfl hf
      rw [this]; push_cast; omega
    · have e1 := hst1 _ hfn hfl
      have e2 := hst2 _ hfn (by rw [e1]; exact hfl)
      rw [e2, e1]
      have h3 := hj.no q i x hq h1 h2 hql hfl
      have h4 : (k : Int) + 1 - kn l x.fr.toNat ≠ wt.getD i 0 := fun e => by
        obtain ⟨e1, e2⟩ := ix_of h1 h2
        refine hqm (occ_mem.2 ⟨may_mem.2 ⟨hq, mayB_iff.2 ⟨x, lnk_of h1 h2, hql, hfl, by omega, by omega⟩⟩, ?_⟩)
        rw [e1, e2]; exact e
      push_cast; omega
theorem own_all {G : Gm} {t : Tab} {k : Nat} {l : List Int} (h : ∀ x ∈ doD t k l, x ∈ free G l) : own G t k l = doD t k l := List.filter_eq_self.2 fun x hx => decide_eq_true (h x hx)
/-- a strategy that wins lasts -/
theorem lasts {G : Gm} {wt : List Int} {t : Tab} (hw : Dur G wt) : ∀ {f k : Nat} {l : List Int}, Wn G t f k l → Dj G wt k l → keptP G (plF G wt t f k l) ∧ Dj G wt (k + f) (plF G wt t f k l)
  | 0, k, l, h, hj => ⟨h, hj⟩
  | f + 1, k, l, h, hj => by
    obtain ⟨h1, h2⟩ := h _ (occ_ch hw hj)
    have e : plS G wt t k l = put (put l (occ G wt k l) (k + 1)) (doD t k (put l (occ G wt k l) (k + 1))) (k + 1) := by unfold plS; rw [own_all h1]
    rw [plF, e, show k + (f + 1) = (k + 1) + f by omega]
    exact lasts hw h2 (dj_step hw hj h1)
end Go.Kin.Sg

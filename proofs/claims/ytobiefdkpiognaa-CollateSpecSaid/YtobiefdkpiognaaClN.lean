/- Collating: what tables are made of; lists of rows compared; few witnesses. Printed by gen_small.py. -/
import Derived.Test.YtobiefdkpiognaaClM
import Derived.Test.YtobiefdkpiognaaClI
import Derived.Test.YtobiefdkpiognaaClTab
import Derived.Test.YtobiefdkpiognaaEng26
set_option linter.unusedSectionVars false
set_option linter.unusedVariables false
set_option linter.unusedSimpArgs false
namespace Go.Proofs
open Go.RowKit Go.Kin Go.Kin.Cl
namespace R41
/-- pairs of an alignment: where they may lie -/
def PsOK (n : Nat) (ps : List (Int × Int)) : Prop := ∀ x ∈ ps, 0 ≤ x.1 ∧ x.1 ≤ 100000 ∧ 0 ≤ x.2 ∧ x.2 ≤ n ∧ (x.1 = 0 → 0 < x.2)
/-! ## The iterator -/
def yE (y : Int × Int) : List Value := [.int .i64 y.1, .int .i64 y.2]
theorem alone_calls (v : Value) (w : World) : Calls Try.prog 36 ⟨[v]⟩ w fun e w' => ∃ b : Nat, e = .returned (.func (.func 51) ⟨[]⟩ ⟨[.pointer (some ⟨b, 0, none⟩)]⟩) ∧ Below w.heap.size w w' ∧ w.heap.size ≤ b ∧ w'.heap[b]? = some (.cells ⟨cellsL v⟩ 48 (0, 0)) := by
  refine fun_enter Try.func36 rfl Try.ntmps36 rfl rfl (satW_nil w) ?_
  repeat (first | refine l_val rfl rfl (by first | exact pureEval_ok rfl ) ?_ | refine l_nil ?_ | refine c_region ?_ | refine c_seq ?_ | refine x_then ?_ | refine r_box rfl rfl rfl rfl (fun _ => ?_) | refine c_ret ?_ )
  rename_i b
  exact x_ret rfl rfl (by repeat (first | exact Res.nil | (apply Res.tmp; rfl) | (apply Res.cell; rfl; exact (by repeat (first | exact List.Mem.head _ | apply List.Mem.tail)); rfl; rfl))) rfl (fun W hW => ⟨b, rfl, hW.below, Nat.le_of_not_lt (hW.own (b, _) (by repeat (first | exact List.Mem.head _ | apply List.Mem.tail))).1, (hW.own (b, _) (by repeat (first | exact List.Mem.head _ | apply List.Mem.tail))).2⟩)
theorem drop_headY {α : Type} {xs r : List α} {j : Nat} {x : α} (h : xs.drop j = x :: r) : ∃ hj : j < xs.length, xs[j] = x ∧ xs.drop (j + 1) = r := by
  have hj : j < xs.length := by
    rcases Nat.lt_or_ge j xs.length with h' | h'
    · exact h'
    · rw [List.drop_eq_nil_of_le h'] at h; cases h
  rw [List.drop_eq_getElem_cons hj] at h
  simp only [List.cons.injEq] at h
  exact ⟨hj, h.1, h.2⟩
structure YS where
  i : Nat
  j : Nat
  af : Int
set_option maxRecDepth 100000 in
set_option maxHeartbeats 4000000 in
theorem alone_it (R : Nat → Prop) (ps : List (Int × Int)) (A : Option Addr) (cap n b1 : Nat) (W1 : World) (hR1 : R b1) (hR : ∀ k, R k → k < W1.heap.size) (h1 : W1.heap[b1]? = some (.cells ⟨[.slice A ps.length cap]⟩ 48 (0, 0))) (hA : Ar W1 R A 2 (ps.map pQ)) (hp : PsOK n ps) (hn : n ≤ 100000) (hl : ps.length ≤ 100000) :
    It Try.prog 51 [.pointer (some ⟨b1, 0, none⟩)] yE (alY ps 0) R W1 := by
  intro lp J Jx cJ cJx hy h0
  obtain ⟨xs, hxs⟩ : ∃ xs, alY ps 0 = xs := ⟨_, rfl⟩
  rw [hxs] at hy ⊢
  have hE1 : Ext W1 R b1 0 [.slice A ps.length cap] := ⟨hR1, fun i v hi => by unfold World.cell?; rw [h1, Nat.zero_add]; simpa using hi⟩
  have hs : SatW W1 R (J 0) [] W1 := ⟨Same.refl _ _, hR, List.nodup_nil, fun p hp => (by cases hp), cJ 0, cJ 0 _ _ _ _ h0 (Same.refl _ _) fun b hb => (by cases hb)⟩
  refine fun_enter Try.func51 rfl Try.ntmps51 rfl rfl hs ?_
  repeat (first | refine l_val rfl rfl (by first | exact pureEval_ok rfl | exact v_load_ext0 rfl (by assumption) rfl (by rfl) ) ?_ | refine l_nil ?_ | refine c_region ?_ | refine c_seq ?_ | refine x_then ?_ | refine c_block ?_ )
  refine c_loopD (ι := YS) (fun q => q.i ≤ ps.length ∧ q.j ≤ xs.length ∧ 0 ≤ q.af ∧ q.af ≤ 100000 ∧ (Unit → xs.drop q.j = alY (ps.drop q.i) q.af)) (fun _ => []) (fun q => J q.j)
    (fun q => [(0, .func (.yield lp) ⟨[]⟩ ⟨[]⟩), (3, .int .i64 q.af), (6, .slice A ps.length cap), (7, .int .i64 ps.length), (8, .int .i64 q.i)]) (fun _ => []) (fun q => ps.length - q.i) ⟨0, 0, 0⟩
    ⟨by simp only; omega, by simp only; omega, by simp only; omega, by simp only; omega, fun _ => by simp only [List.drop_zero]; exact hxs.symm⟩ rfl rfl (by repeat (first | exact EnvSub.nil | refine EnvSub.cons rfl (by first | rfl | (congr 1; done) | (exact congrArg (Value.int _) (by omega)) | (simp; done)) ?_)) (by repeat (first | exact MSub.nil | refine MSub.keep (by first | rfl | assumption) ?_ | refine MSub.drop ?_ | exact MSub.refl _)) ?_
  rintro ⟨i, j, af⟩ ⟨q1, q2, q3, q4, q5⟩
  simp only at q1 q2 q3 q4 q5 ⊢
  by_cases hlt : i < ps.length
  · obtain ⟨x, hx⟩ : ∃ x, ps[i]? = some x := ⟨_, List.getElem?_eq_getElem hlt⟩
    obtain ⟨b, o, rfl, he⟩ := hA.get hx
    obtain ⟨p1, p2, p3, p4, p5⟩ := hp x (List.mem_of_getElem? hx)
    have hd : ps.drop i = x :: ps.drop (i + 1) := drop_getA hx
    by_cases hx1 : 0 < x.1
    · have q6 : Unit → xs.drop j = alY (ps.drop (i + 1)) x.1 := fun _ => by rw [q5 (), hd, alY, if_pos hx1]
      clear q5 hd
      repeat (first | refine l_val rfl rfl (by first | exact v_add rfl rfl (by omega) (by omega) | exact pureEval_ok rfl | exact v_load rfl (by repeat (first | exact List.Mem.head _ | apply List.Mem.tail)) rfl (by rfl) | exact v_load_ext0 rfl (by assumption) rfl (by rfl) | exact v_index rfl rfl rfl rfl (by omega) (by omega) (by with_reducible first | exact idx4 _ _ _  ) | exact v_indexA rfl rfl rfl rfl (by omega) (by omega) (by with_reducible first | exact idx5 _  ) ) ?_ | refine l_nil ?_ | refine c_region ?_ | refine c_seq ?_ | refine x_then ?_ | refine r_alloc rfl rfl rfl (by first | exact aggL ) (fun _ => ?_) | refine r_store rfl rfl rfl rfl rfl rfl rfl (by repeat (first | exact Upd.head | apply Upd.tail)) (by rfl) ?_ | refine c_dec_t rfl (by first | omega ) ?_ | refine c_block ?_ | refine c_skip ?_ | refine x_block ?_ )
      exact x_backD ⟨i + 1, j, x.1⟩ ⟨hlt, q2, p1, p2, q6⟩ (by simp only; omega) rfl rfl (by repeat (first | exact EnvSub.nil | refine EnvSub.cons rfl (by first | rfl | (congr 1; done) | (exact congrArg (Value.int _) (by omega)) | (simp; done)) ?_)) (by repeat (first | exact MSub.nil | refine MSub.keep (by first | rfl | assumption) ?_ | refine MSub.drop ?_ | exact MSub.refl _))
    · have q6 := q5 ()
      rw [hd, alY, if_neg hx1] at q6
      obtain ⟨hj1, e1, q8⟩ := drop_headY q6
      have q8 := fun (_ : Unit) => q8
      clear q5 hd q6
      repeat (first | refine l_val rfl rfl (by first | exact v_sub rfl rfl (by omega) (by omega) | exact pureEval_ok rfl | exact v_load rfl (by repeat (first | exact List.Mem.head _ | apply List.Mem.tail)) rfl (by rfl) | exact v_load_ext0 rfl (by assumption) rfl (by rfl) | exact v_index rfl rfl rfl rfl (by omega) (by omega) (by with_reducible first | exact idx4 _ _ _  ) | exact v_indexA rfl rfl rfl rfl (by omega) (by omega) (by with_reducible first | exact idx5 _  ) ) ?_ | refine l_nil ?_ | refine c_region ?_ | refine c_seq ?_ | refine x_then ?_ | refine r_alloc rfl rfl rfl (by first | exact aggL ) (fun _ => ?_) | refine r_store rfl rfl rfl rfl rfl rfl rfl (by repeat (first | exact Upd.head | apply Upd.tail)) (by rfl) ?_ | refine c_dec_t rfl (by first | omega ) ?_ | refine c_dec_f rfl (by first | omega ) ?_ | refine c_block ?_ | refine c_skip ?_ )
      refine l_yield rfl rfl rfl rfl rfl (cJ (j + 1)) (cJx j) (fun S A hj hS => by have := hy j hj1 S A hj hS; rw [e1] at this; exact this) ?_ (fun W0 => ?_)
      · repeat (first | refine l_val rfl rfl (by first | exact v_add rfl rfl (by omega) (by omega) | exact pureEval_ok rfl ) ?_ | refine l_nil ?_ | refine c_region ?_ | refine x_then ?_ | refine c_false rfl ?_ | refine c_skip ?_ | refine x_block ?_ )
        exact x_backD ⟨i + 1, j + 1, af⟩ ⟨hlt, hj1, q3, q4, q8⟩ (by simp only; omega) rfl rfl (by repeat (first | exact EnvSub.nil | refine EnvSub.cons rfl (by first | rfl | (congr 1; done) | (exact congrArg (Value.int _) (by omega)) | (simp; done)) ?_)) (by repeat (first | exact MSub.nil | refine MSub.keep (by first | rfl | assumption) ?_ | refine MSub.drop ?_ | exact MSub.refl _))
      · repeat (first | refine l_val rfl rfl (by first | exact pureEval_ok rfl ) ?_ | refine l_nil ?_ | refine x_then ?_ | refine c_true rfl ?_ | refine c_ret ?_ | refine x_then_ret ?_ | refine x_block_ret ?_ )
        exact x_ret rfl rfl (by repeat (first | exact Res.nil | (apply Res.tmp; rfl) | (apply Res.cell; rfl; exact (by repeat (first | exact List.Mem.head _ | apply List.Mem.tail)); rfl; rfl))) rfl (fun W hW => ⟨⟨_, rfl⟩, .inr ⟨j, hj1, _, hW.word⟩⟩)
  · have hil : i = ps.length := by omega
    have hjl : j = xs.length := by
      have := congrArg List.length (q5 ())
      rw [hil, List.drop_length, List.length_drop] at this
      simp only [alY, List.length_nil] at this
      omega
    clear q5
    repeat (first | refine l_val rfl rfl (by first | exact pureEval_ok rfl ) ?_ | refine l_nil ?_ | refine c_region ?_ | refine c_seq ?_ | refine x_then ?_ | refine c_dec_f rfl (by first | omega ) ?_ | refine c_exit ?_ | refine x_then_exit ?_ | refine x_block_same ?_ )
    exact x_end rfl rfl (by repeat (first | exact Res.nil | (apply Res.tmp; rfl) | (apply Res.cell; rfl; exact (by repeat (first | exact List.Mem.head _ | apply List.Mem.tail)); rfl; rfl))) rfl (fun W hW => ⟨⟨_, rfl⟩, .inl ⟨_, by rw [← hjl]; exact hW.word⟩⟩)
/-! ## The specification's own functions -/
theorem cell0 {W : World} {D : Nat → Prop} {b o : Nat} {v : Value} {l : List Value} (h : Ext W D b o (v :: l)) : Ext W D b (o + 0) (v :: l) := h
theorem cell1 {W : World} {D : Nat → Prop} {b o : Nat} {u v : Value} {l : List Value} (h : Ext W D b o (u :: v :: l)) : Ext W D b (o + 1) (v :: l) := ⟨h.dom, fun i w hi => by have := h.cell (i + 1) w (by simpa using hi); rwa [show o + (i + 1) = o + 1 + i by omega] at this⟩

set_option maxRecDepth 100000 in
set_option maxHeartbeats 40000000 in
theorem ralone_calls (ps : List (Int × Int)) (b : List Int) (many : Nat) (A B : Option Addr) (cap cb : Nat) (w : World) (hp : PsOK b.length ps) (hl : ps.length ≤ 100000) (hb : b.length ≤ 100000) (hA : Kin.At w A 2 (ps.map pQ)) (hB : Kin.At w B 1 (b.map inE)) :
    Calls Try.prog 38 ⟨[.slice A ps.length cap, .slice B b.length cb, .int .i64 many]⟩ w (RowQ (aloF b many ps 0) w) := by
  refine fun_enter Try.func38 rfl Try.ntmps38 rfl rfl (satW_nil w) ?_
  repeat (first | refine l_val rfl rfl (by first | exact pureEval_ok rfl ) ?_ | refine l_nil ?_ | refine c_region ?_ | refine c_seq ?_ | refine x_then ?_ | refine c_block ?_ )
  refine c_loop (ι := Nat × Nat × IS) (fun (i, n, s) => i ≤ ps.length ∧ n ≤ i ∧ s.ok ∧ s.l.length ≤ i ∧ (Unit → s.l ++ aloF b many (ps.drop i) n = aloF b many ps 0)) (fun (i, n, s) => [(0, .slice A ps.length cap), (1, .slice B b.length cb), (2, .int .i64 many), (7, s.sv), (8, .int .i64 n), (9, .int .i64 i)]) (fun (i, n, s) => s.mem) (fun (i, n, s) => ps.length - i) (0, 0, .zero) ⟨by omega, by omega, trivial, by exact Nat.zero_le _, fun _ => rfl⟩ (by repeat (first | exact EnvSub.nil | refine EnvSub.cons rfl (by first | rfl | (congr 1; done) | (exact congrArg (Value.int _) (by omega)) | (simp; done)) ?_)) (by repeat (first | exact MSub.nil | refine MSub.keep (by first | rfl | assumption) ?_ | refine MSub.drop ?_ | exact MSub.refl _)) ?_
  rintro ⟨i, n, s⟩ ⟨hi, hn, hs, hsl, hM⟩
  by_cases hlt : i < ps.length
  rotate_left
  · have hil : i = ps.length := by omega
    subst hil
    have hfin := hM ()
    rw [List.drop_length, aloF, List.append_nil] at hfin
    clear hM
    rcases s with _ | ⟨m, bp, c, r, l⟩
    · repeat (first | refine l_val rfl rfl (by first | exact pureEval_ok rfl ) ?_ | refine l_nil ?_ | refine c_region ?_ | refine c_seq ?_ | refine x_then ?_ | refine c_dec_f rfl (by first | omega ) ?_ | refine c_ret ?_ | refine c_exit ?_ | refine x_then_exit ?_ | refine x_block_same ?_ )
      exact x_ret rfl rfl (by repeat (first | exact Res.nil | (apply Res.tmp; rfl) | (apply Res.cell; rfl; exact (by repeat (first | exact List.Mem.head _ | apply List.Mem.tail)); rfl; rfl))) rfl (fun W hW => ⟨hW.below, .inl ⟨hfin.symm, rfl⟩⟩)
    · obtain ⟨g1, g2, g3⟩ := hs
      have he : aloF b many ps 0 = l := hfin.symm
      have hm : m = (aloF b many ps 0).length := by rw [he, g2]
      simp only [IS.sv, IS.mem, List.cons_append, List.nil_append]
      repeat (first | refine l_val rfl rfl (by first | exact pureEval_ok rfl ) ?_ | refine l_nil ?_ | refine c_region ?_ | refine c_seq ?_ | refine x_then ?_ | refine c_dec_f rfl (by first | omega ) ?_ | refine c_ret ?_ | refine c_exit ?_ | refine x_then_exit ?_ | refine x_block_same ?_ )
      exact x_ret rfl rfl (by repeat (first | exact Res.nil | (apply Res.tmp; rfl) | (apply Res.cell; rfl; exact (by repeat (first | exact List.Mem.head _ | apply List.Mem.tail)); rfl; rfl))) rfl (fun W hW => ⟨hW.below, .inr ⟨by rw [he]; intro h; rw [h] at g2; simp at g2; omega, bp, c, r, by first | (rw [← hm]; done) | (rw [← hm]; rfl), by rw [← hm, he]; exact g3, Nat.le_of_not_lt (hW.own (bp, _) (by repeat (first | exact List.Mem.head _ | apply List.Mem.tail))).1, by rw [he]; exact (hW.own (bp, _) (by repeat (first | exact List.Mem.head _ | apply List.Mem.tail))).2⟩⟩)
  obtain ⟨x, hx⟩ : ∃ x, ps[i]? = some x := ⟨_, List.getElem?_eq_getElem hlt⟩
  obtain ⟨b1, o1, rfl, e1⟩ := ext_at hA hx
  have g1 := ext_of e1
  have g2 := cell1 g1
  obtain ⟨p1, p2, p3, p4, p5⟩ := hp x (List.mem_of_getElem? hx)
  have hd : ps.drop i = x :: ps.drop (i + 1) := drop_getA hx
  rcases s with _ | ⟨m, bp, c, r, l⟩
  · by_cases hx1 : 0 < x.1
    · have hM' : Unit → IS.l (.zero) ++ aloF b many (ps.drop (i + 1)) (n + 1) = aloF b many ps 0 := fun _ => by rw [← hM (), hd, aloF, if_neg (by omega), if_pos hx1]; rfl
      clear hM hd
      simp only [IS.sv, IS.mem, List.nil_append]
      repeat (first | refine l_val rfl rfl (by first | exact v_add rfl rfl (by omega) (by omega) | exact pureEval_ok rfl | exact v_load_ext0 rfl (by assumption) rfl (by rfl) | exact v_index rfl rfl rfl rfl (by omega) (by omega) (by with_reducible first | exact idx4 _ _ _  ) | exact v_indexA rfl rfl rfl rfl (by omega) (by omega) (by with_reducible first | exact idx6 _ _  ) ) ?_ | refine l_nil ?_ | refine c_region ?_ | refine c_seq ?_ | refine x_then ?_ | refine l_skip rfl rfl ?_ | refine c_false rfl ?_ | refine c_dec_t rfl (by first | omega ) ?_ | refine c_block ?_ | refine c_skip ?_ | refine x_block ?_ | refine l_dec_f rfl rfl rfl rfl rfl (by first | omega ) ?_ )
      exact x_back (i + 1, n + 1, .zero) ⟨hlt, by simp only; omega, trivial, Nat.zero_le _, hM'⟩ (by simp only; omega) (by repeat (first | exact EnvSub.nil | refine EnvSub.cons rfl (by first | rfl | (congr 1; done) | (exact congrArg (Value.int _) (by omega)) | (simp; done)) ?_)) (by repeat (first | exact MSub.nil | refine MSub.keep (by first | rfl | assumption) ?_ | refine MSub.drop ?_ | exact MSub.refl _))
    by_cases hnm : n = many
    rotate_left
    · have hM' : Unit → IS.l (.zero) ++ aloF b many (ps.drop (i + 1)) n = aloF b many ps 0 := fun _ => by rw [← hM (), hd, aloF, if_neg hx1, if_neg (fun h => hnm h.2)]; rfl
      clear hM hd
      simp only [IS.sv, IS.mem, List.nil_append]
      repeat (first | refine l_val rfl rfl (by first | exact v_add rfl rfl (by omega) (by omega) | exact pureEval_ok rfl | exact v_load_ext0 rfl (by assumption) rfl (by rfl) | exact v_index rfl rfl rfl rfl (by omega) (by omega) (by with_reducible first | exact idx4 _ _ _  ) | exact v_indexA rfl rfl rfl rfl (by omega) (by omega) (by with_reducible first | exact idx6 _ _  ) ) ?_ | refine l_nil ?_ | refine c_region ?_ | refine c_seq ?_ | refine x_then ?_ | refine c_dec_t rfl (by first | omega ) ?_ | refine c_dec_f rfl (by first | omega ) ?_ | refine c_block ?_ | refine c_skip ?_ | refine x_block ?_ | refine l_dec_t rfl rfl rfl rfl rfl (by first | omega ) ?_ )
      exact x_back (i + 1, n, .zero) ⟨hlt, by simp only; omega, trivial, Nat.zero_le _, hM'⟩ (by simp only; omega) (by repeat (first | exact EnvSub.nil | refine EnvSub.cons rfl (by first | rfl | (congr 1; done) | (exact congrArg (Value.int _) (by omega)) | (simp; done)) ?_)) (by repeat (first | exact MSub.nil | refine MSub.keep (by first | rfl | assumption) ?_ | refine MSub.drop ?_ | exact MSub.refl _))
    · have hx0 : x.1 = 0 := by omega
      obtain ⟨y, hyy⟩ : ∃ y, b[(x.2 - 1).toNat]? = some y := ⟨_, List.getElem?_eq_getElem (by have := p5 hx0; omega)⟩
      have hgd : b.getD (x.2 - 1).toNat 0 = y := by rw [List.getD_eq_getElem?_getD, hyy]; rfl
      obtain ⟨b3, o3, rfl, e3⟩ := ext_at hB hyy
      have g3 := ext_of e3
      rw [Nat.mul_one] at g3
      have p6 := p5 hx0
      have hM' : Unit → ([] ++ [y]) ++ aloF b many (ps.drop (i + 1)) n = aloF b many ps 0 := fun _ => by rw [← hM (), hd, aloF, if_neg hx1, if_pos ⟨hx0, hnm⟩, hgd, List.append_assoc]; rfl
      clear hM hd
      simp only [IS.sv, IS.mem, List.nil_append]
      repeat (first | refine l_val rfl rfl (by first | exact v_sub rfl rfl (by omega) (by omega) | exact pureEval_ok rfl | exact v_load_ext0 rfl (by assumption) rfl (by rfl) | exact v_index rfl rfl rfl rfl (by omega) (by omega) (by with_reducible first | exact idx4 _ _ _  | exact idx6 _ _  ) | exact v_indexA rfl rfl rfl rfl (by omega) (by omega) (by with_reducible first | exact idx6 _ _  ) ) ?_ | refine l_nil ?_ | refine c_region ?_ | refine c_seq ?_ | refine x_then ?_ | refine r_buildSlice rfl rfl rfl rfl rfl rfl (by rfl) (fun _ => ?_) | refine c_dec_t rfl (by first | omega ) ?_ | refine c_dec_f rfl (by first | omega ) ?_ | refine c_block ?_ | refine c_skip ?_ | refine l_dec_t rfl rfl rfl rfl rfl (by first | omega ) ?_ )
      refine r_append_nil (m := 1) (ys := [.int .i64 y]) rfl rfl rfl rfl rfl rfl (news_own (by repeat (first | exact List.Mem.head _ | apply List.Mem.tail))) rfl rfl (by decide) (by decide) (by decide) (fun b7 c7 r7 hg7 => ?_)
      repeat (first | refine l_val rfl rfl (by first | exact v_add rfl rfl (by omega) (by omega) | exact pureEval_ok rfl ) ?_ | refine l_nil ?_ | refine c_region ?_ | refine x_then ?_ | refine x_block ?_ )
      exact x_back (i + 1, n, .more 1 b7 c7 r7 [y]) ⟨hlt, by simp only; omega, ⟨by decide, rfl, hg7⟩, by simp only [IS.l, List.length_cons, List.length_nil]; omega, hM'⟩ (by simp only; omega) (by repeat (first | exact EnvSub.nil | refine EnvSub.cons rfl (by first | rfl | (congr 1; done) | (exact congrArg (Value.int _) (by omega)) | (simp; done)) ?_)) (by repeat (first | exact MSub.nil | refine MSub.keep (by first | rfl | assumption) ?_ | refine MSub.drop ?_ | exact MSub.refl _))
  · by_cases hx1 : 0 < x.1
    · have hM' : Unit → IS.l (.more m bp c r l) ++ aloF b many (ps.drop (i + 1)) (n + 1) = aloF b many ps 0 := fun _ => by rw [← hM (), hd, aloF, if_neg (by omega), if_pos hx1]; rfl
      clear hM hd
      obtain ⟨k1, k2, k3⟩ := hs
      simp only [IS.l] at hsl
      simp only [IS.sv, IS.mem, List.cons_append, List.nil_append]
      repeat (first | refine l_val rfl rfl (by first | exact v_add rfl rfl (by omega) (by omega) | exact pureEval_ok rfl | exact v_load_ext0 rfl (by assumption) rfl (by rfl) | exact v_index rfl rfl rfl rfl (by omega) (by omega) (by with_reducible first | exact idx4 _ _ _  ) | exact v_indexA rfl rfl rfl rfl (by omega) (by omega) (by with_reducible first | exact idx6 _ _  ) ) ?_ | refine l_nil ?_ | refine c_region ?_ | refine c_seq ?_ | refine x_then ?_ | refine l_skip rfl rfl ?_ | refine c_false rfl ?_ | refine c_dec_t rfl (by first | omega ) ?_ | refine c_block ?_ | refine c_skip ?_ | refine x_block ?_ | refine l_dec_f rfl rfl rfl rfl rfl (by first | omega ) ?_ )
      exact x_back (i + 1, n + 1, .more m bp c r l) ⟨hlt, by simp only; omega, ⟨k1, k2, k3⟩, Nat.le_succ_of_le hsl, hM'⟩ (by simp only; omega) (by repeat (first | exact EnvSub.nil | refine EnvSub.cons rfl (by first | rfl | (congr 1; done) | (exact congrArg (Value.int _) (by omega)) | (simp; done)) ?_)) (by repeat (first | exact MSub.nil | refine MSub.keep (by first | rfl | assumption) ?_ | refine MSub.drop ?_ | exact MSub.refl _))
    by_cases hnm : n = many
    rotate_left
    · have hM' : Unit → IS.l (.more m bp c r l) ++ aloF b many (ps.drop (i + 1)) n = aloF b many ps 0 := fun _ => by rw [← hM (), hd, aloF, if_neg hx1, if_neg (fun h => hnm h.2)]; rfl
      clear hM hd
      obtain ⟨k1, k2, k3⟩ := hs
      simp only [IS.l] at hsl
      simp only [IS.sv, IS.mem, List.cons_append, List.nil_append]
      repeat (first | refine l_val rfl rfl (by first | exact v_add rfl rfl (by omega) (by omega) | exact pureEval_ok rfl | exact v_load_ext0 rfl (by assumption) rfl (by rfl) | exact v_index rfl rfl rfl rfl (by omega) (by omega) (by with_reducible first | exact idx4 _ _ _  ) | exact v_indexA rfl rfl rfl rfl (by omega) (by omega) (by with_reducible first | exact idx6 _ _  ) ) ?_ | refine l_nil ?_ | refine c_region ?_ | refine c_seq ?_ | refine x_then ?_ | refine c_dec_t rfl (by first | omega ) ?_ | refine c_dec_f rfl (by first | omega ) ?_ | refine c_block ?_ | refine c_skip ?_ | refine x_block ?_ | refine l_dec_t rfl rfl rfl rfl rfl (by first | omega ) ?_ )
      exact x_back (i + 1, n, .more m bp c r l) ⟨hlt, by simp only; omega, ⟨k1, k2, k3⟩, Nat.le_succ_of_le hsl, hM'⟩ (by simp only; omega) (by repeat (first | exact EnvSub.nil | refine EnvSub.cons rfl (by first | rfl | (congr 1; done) | (exact congrArg (Value.int _) (by omega)) | (simp; done)) ?_)) (by repeat (first | exact MSub.nil | refine MSub.keep (by first | rfl | assumption) ?_ | refine MSub.drop ?_ | exact MSub.refl _))
    · have hx0 : x.1 = 0 := by omega
      obtain ⟨y, hyy⟩ : ∃ y, b[(x.2 - 1).toNat]? = some y := ⟨_, List.getElem?_eq_getElem (by have := p5 hx0; omega)⟩
      have hgd : b.getD (x.2 - 1).toNat 0 = y := by rw [List.getD_eq_getElem?_getD, hyy]; rfl
      obtain ⟨b3, o3, rfl, e3⟩ := ext_at hB hyy
      have g3 := ext_of e3
      rw [Nat.mul_one] at g3
      have p6 := p5 hx0
      have hM' : Unit → (l ++ [y]) ++ aloF b many (ps.drop (i + 1)) n = aloF b many ps 0 := fun _ => by rw [← hM (), hd, aloF, if_neg hx1, if_pos ⟨hx0, hnm⟩, hgd, List.append_assoc]; rfl
      clear hM hd
      obtain ⟨k1, k2, k3⟩ := hs
      simp only [IS.l] at hsl
      simp only [IS.sv, IS.mem, List.cons_append, List.nil_append]
      repeat (first | refine l_val rfl rfl (by first | exact v_sub rfl rfl (by omega) (by omega) | exact pureEval_ok rfl | exact v_load_ext0 rfl (by assumption) rfl (by rfl) | exact v_index rfl rfl rfl rfl (by omega) (by omega) (by with_reducible first | exact idx4 _ _ _  | exact idx6 _ _  ) | exact v_indexA rfl rfl rfl rfl (by omega) (by omega) (by with_reducible first | exact idx6 _ _  ) ) ?_ | refine l_nil ?_ | refine c_region ?_ | refine c_seq ?_ | refine x_then ?_ | refine r_buildSlice rfl rfl rfl rfl rfl rfl (by rfl) (fun _ => ?_) | refine c_dec_t rfl (by first | omega ) ?_ | refine c_dec_f rfl (by first | omega ) ?_ | refine c_block ?_ | refine c_skip ?_ | refine l_dec_t rfl rfl rfl rfl rfl (by first | omega ) ?_ )
      refine r_append (m := 1) (ys := [.int .i64 y]) rfl rfl rfl rfl rfl rfl (news_own (by repeat (first | exact List.Mem.head _ | apply List.Mem.tail))) (by repeat (first | exact Rem.head | apply Rem.tail)) k3 rfl rfl (by decide) (by omega) (by unfold maxLen; omega) (fun b7 c7 r7 hg7 => ?_)
      rw [← flatI_snoc] at hg7 ⊢
      repeat (first | refine l_val rfl rfl (by first | exact v_add rfl rfl (by omega) (by omega) | exact pureEval_ok rfl ) ?_ | refine l_nil ?_ | refine c_region ?_ | refine x_then ?_ | refine x_block ?_ )
      exact x_back (i + 1, n, .more (m + 1) b7 c7 r7 (l ++ [y])) ⟨hlt, by simp only; omega, ⟨by omega, by rw [List.length_append, k2]; rfl, hg7⟩, by simp only [IS.l, List.length_append, List.length_cons, List.length_nil]; omega, hM'⟩ (by simp only; omega) (by repeat (first | exact EnvSub.nil | refine EnvSub.cons rfl (by first | rfl | (congr 1; done) | (exact congrArg (Value.int _) (by omega)) | (simp; done)) ?_)) (by repeat (first | exact MSub.nil | refine MSub.keep (by first | rfl | assumption) ?_ | refine MSub.drop ?_ | exact MSub.refl _))
set_option maxRecDepth 100000 in
set_option maxHeartbeats 40000000 in
theorem rbeside_calls (ps : List (Int × Int)) (b : List Int) (at' : Nat) (A B : Option Addr) (cap cb : Nat) (w : World) (hp : PsOK b.length ps) (hl : ps.length ≤ 100000) (hb : b.length ≤ 100000) (hat : at' ≤ 100000) (hA : Kin.At w A 2 (ps.map pQ)) (hB : Kin.At w B 1 (b.map inE)) :
    Calls Try.prog 39 ⟨[.slice A ps.length cap, .slice B b.length cb, .int .i64 at']⟩ w fun e w' => e = .returned (.int .i64 (besF b at' ps)) ∧ Below w.heap.size w w' := by
  refine fun_enter Try.func39 rfl Try.ntmps39 rfl rfl (satW_nil w) ?_
  repeat (first | refine l_val rfl rfl (by first | exact pureEval_ok rfl ) ?_ | refine l_nil ?_ | refine c_region ?_ | refine c_seq ?_ | refine x_then ?_ | refine c_block ?_ )
  refine c_loop (ι := Nat) (fun i => i ≤ ps.length ∧ (Unit → besF b at' (ps.drop i) = besF b at' ps)) (fun i => [(0, .slice A ps.length cap), (1, .slice B b.length cb), (2, .int .i64 at'), (7, .int .i64 i)]) (fun _ => []) (fun i => ps.length - i) 0 ⟨by omega, fun _ => rfl⟩ (by repeat (first | exact EnvSub.nil | refine EnvSub.cons rfl (by first | rfl | (congr 1; done) | (exact congrArg (Value.int _) (by omega)) | (simp; done)) ?_)) (by repeat (first | exact MSub.nil | refine MSub.keep (by first | rfl | assumption) ?_ | refine MSub.drop ?_ | exact MSub.refl _)) ?_
  rintro i ⟨hi, hM⟩
  by_cases hlt : i < ps.length
  rotate_left
  · have hil : i = ps.length := by omega
    subst hil
    have hfin := hM ()
    rw [List.drop_length, besF] at hfin
    clear hM
    repeat (first | refine l_val rfl rfl (by first | exact pureEval_ok rfl ) ?_ | refine l_nil ?_ | refine c_region ?_ | refine c_seq ?_ | refine x_then ?_ | refine c_dec_f rfl (by first | omega ) ?_ | refine c_ret ?_ | refine c_exit ?_ | refine x_then_exit ?_ | refine x_block_same ?_ )
    exact x_ret rfl rfl (by repeat (first | exact Res.nil | (apply Res.tmp; rfl) | (apply Res.cell; rfl; exact (by repeat (first | exact List.Mem.head _ | apply List.Mem.tail)); rfl; rfl))) rfl (fun W hW => ⟨by rw [← hfin], hW.below⟩)
  obtain ⟨x, hx⟩ : ∃ x, ps[i]? = some x := ⟨_, List.getElem?_eq_getElem hlt⟩
  obtain ⟨b1, o1, rfl, e1⟩ := ext_at hA hx
  have g1 := ext_of e1
  have g2 := cell1 g1
  obtain ⟨p1, p2, p3, p4, p5⟩ := hp x (List.mem_of_getElem? hx)
  have hd : ps.drop i = x :: ps.drop (i + 1) := drop_getA hx
  by_cases h1 : x.1 = at' + 1
  · by_cases h2 : 0 < x.2
    · obtain ⟨y, hyy⟩ : ∃ y, b[(x.2 - 1).toNat]? = some y := ⟨_, List.getElem?_eq_getElem (by omega)⟩
      have hgd : b.getD (x.2 - 1).toNat 0 = y := by rw [List.getD_eq_getElem?_getD, hyy]; rfl
      have hv : besF b at' ps = y := by rw [← hM (), hd, besF, if_pos ⟨h1, h2⟩, hgd]
      obtain ⟨b3, o3, rfl, e3⟩ := ext_at hB hyy
      have g3 := ext_of e3
      rw [Nat.mul_one] at g3
      clear hM hd
      repeat (first | refine l_val rfl rfl (by first | exact v_add rfl rfl (by omega) (by omega) | exact v_sub rfl rfl (by omega) (by omega) | exact pureEval_ok rfl | exact v_load_ext0 rfl (by assumption) rfl (by rfl) | exact v_index rfl rfl rfl rfl (by omega) (by omega) (by with_reducible first | exact idx4 _ _ _  | exact idx6 _ _  ) | exact v_indexA rfl rfl rfl rfl (by omega) (by omega) (by with_reducible first | exact idx6 _ _  ) ) ?_ | refine l_nil ?_ | refine c_region ?_ | refine c_seq ?_ | refine x_then ?_ | refine c_dec_t rfl (by first | omega ) ?_ | refine c_block ?_ | refine c_skip ?_ | refine c_ret ?_ | refine x_then_ret ?_ | refine x_block_ret ?_ | refine l_dec_t rfl rfl rfl rfl rfl (by first | omega ) ?_ )
      exact x_ret rfl rfl (by repeat (first | exact Res.nil | (apply Res.tmp; rfl) | (apply Res.cell; rfl; exact (by repeat (first | exact List.Mem.head _ | apply List.Mem.tail)); rfl; rfl))) rfl (fun W hW => ⟨by rw [hv], hW.below⟩)
    · have hM' : Unit → besF b at' (ps.drop (i + 1)) = besF b at' ps := fun _ => by rw [← hM (), hd, besF, if_neg (fun h => h2 h.2)]
      clear hM hd
      repeat (first | refine l_val rfl rfl (by first | exact v_add rfl rfl (by omega) (by omega) | exact pureEval_ok rfl | exact v_load_ext0 rfl (by assumption) rfl (by rfl) | exact v_index rfl rfl rfl rfl (by omega) (by omega) (by with_reducible first | exact idx4 _ _ _  ) | exact v_indexA rfl rfl rfl rfl (by omega) (by omega) (by with_reducible first | exact idx6 _ _  ) ) ?_ | refine l_nil ?_ | refine c_region ?_ | refine c_seq ?_ | refine x_then ?_ | refine c_dec_t rfl (by first | omega ) ?_ | refine c_dec_f rfl (by first | omega ) ?_ | refine c_block ?_ | refine c_skip ?_ | refine x_block ?_ | refine l_dec_t rfl rfl rfl rfl rfl (by first | omega ) ?_ )
      exact x_back (i + 1) ⟨hlt, hM'⟩ (by omega) (by repeat (first | exact EnvSub.nil | refine EnvSub.cons rfl (by first | rfl | (congr 1; done) | (exact congrArg (Value.int _) (by omega)) | (simp; done)) ?_)) (by repeat (first | exact MSub.nil | refine MSub.keep (by first | rfl | assumption) ?_ | refine MSub.drop ?_ | exact MSub.refl _))
  · have hM' : Unit → besF b at' (ps.drop (i + 1)) = besF b at' ps := fun _ => by rw [← hM (), hd, besF, if_neg (fun h => h1 h.1)]
    clear hM hd
    repeat (first | refine l_val rfl rfl (by first | exact v_add rfl rfl (by omega) (by omega) | exact pureEval_ok rfl | exact v_load_ext0 rfl (by assumption) rfl (by rfl) | exact v_index rfl rfl rfl rfl (by omega) (by omega) (by with_reducible first | exact idx4 _ _ _  ) | exact v_indexA rfl rfl rfl rfl (by omega) (by omega) (by with_reducible first | exact idx5 _  | exact idx6 _ _  ) ) ?_ | refine l_nil ?_ | refine c_region ?_ | refine c_seq ?_ | refine x_then ?_ | refine l_skip rfl rfl ?_ | refine c_false rfl ?_ | refine c_dec_t rfl (by first | omega ) ?_ | refine c_block ?_ | refine c_skip ?_ | refine x_block ?_ | refine l_dec_f rfl rfl rfl rfl rfl (by first | omega ) ?_ )
    exact x_back (i + 1) ⟨hlt, hM'⟩ (by omega) (by repeat (first | exact EnvSub.nil | refine EnvSub.cons rfl (by first | rfl | (congr 1; done) | (exact congrArg (Value.int _) (by omega)) | (simp; done)) ?_)) (by repeat (first | exact MSub.nil | refine MSub.keep (by first | rfl | assumption) ?_ | refine MSub.drop ?_ | exact MSub.refl _))
/-- a row in new memory -/
def FillQ (l : List Int) (w : World) (e : Ending) (w' : World) : Prop :=
  ∃ b cap rest, e = .returned (.slice (some ⟨b, 0, none⟩) l.length cap) ∧ Grow 1 l.length (flatI l) cap rest ∧ Below w.heap.size w w' ∧ w.heap.size ≤ b ∧ w'.heap[b]? = some (.cells ⟨flatI l ++ rest⟩ 3 (0, 0))
theorem flatI_one (l : List Int) : allOne (flatI l) = true := by
  induction l with
  | nil => rfl
  | cons x l ih => exact ih
theorem flatI_app (l m : List Int) : flatI (l ++ m) = flatI l ++ flatI m := by unfold flatI; rw [List.map_append, List.flatten_append]
theorem news_at {w : World} {F : Fence} {n : Nat} {ds : List Deferred} {J : (Nat → Prop) → World → Prop} {mem : List (Nat × Obj)} {b o : Nat} {l : List Int} (h : Kin.At w (some ⟨b, o, none⟩) 1 (l.map inE)) : News ⟨F, n, ds, w, base w, J⟩ mem b o (flatI l) := ⟨fun W hW j v hj => by
  have hj2 : j < l.length := by have := (List.getElem?_eq_some_iff.1 hj).1; rw [flatI_len] at this; omega
  have e1 : (flatI l)[j]? = some (.int .i64 l[j]) := by
    rw [flatI_map]
    rw [List.getElem?_map, List.getElem?_eq_getElem hj2]; rfl
  rw [e1] at hj
  obtain ⟨b', o', e, hc⟩ := ext_at (h.sat hW) (List.getElem?_eq_getElem hj2)
  cases e
  have := hc 0 _ rfl
  rw [show o + j * 1 + 0 = o + j by omega] at this
  rw [← hj]; exact this⟩
structure FS where
  j : Nat
  b : Nat
  c : Nat
  r : List Value
set_option maxRecDepth 100000 in
set_option maxHeartbeats 40000000 in
theorem filled_calls (l : List Int) (n : Nat) (A : Option Addr) (cap : Nat) (w : World) (hn : n ≤ 100000) (hln : l.length ≤ n) (hA : Kin.At w A 1 (l.map inE)) :
    Calls Try.prog 40 ⟨[.slice A l.length cap, .int .i64 n]⟩ w (FillQ (padL l n) w) := by
  refine fun_enter Try.func40 rfl Try.ntmps40 rfl rfl (satW_nil w) ?_
  repeat (first | refine l_val rfl rfl (by first | exact pureEval_ok rfl ) ?_ | refine l_nil ?_ | refine c_region ?_ | refine c_seq ?_ | refine x_then ?_ | refine r_buildSlice rfl rfl rfl rfl rfl rfl (by rfl) (fun _ => ?_) )
  rename_i b0
  cases l with
  | nil =>
    refine l_val rfl rfl (v_append0 rfl rfl rfl rfl (Nat.le_refl 0)) ?_
    repeat (first | refine l_val rfl rfl (by first | exact pureEval_ok rfl ) ?_ | refine l_nil ?_ | refine c_seq ?_ | refine x_then ?_ | refine c_block ?_ )
    refine c_loop (ι := FS) (fun s => ([] : List Int).length + s.j ≤ n ∧ Grow 1 (([] : List Int).length + s.j) (flatI (([] : List Int) ++ List.replicate s.j 0)) s.c s.r) (fun s => [(5, .slice (some ⟨s.b, 0, none⟩) (([] : List Int).length + s.j) s.c), (1, .int .i64 n)]) (fun s => [(s.b, .cells ⟨flatI (([] : List Int) ++ List.replicate s.j 0) ++ s.r⟩ 3 (0, 0))]) (fun s => n - s.j) ⟨0, b0, 0, []⟩ ⟨Nat.zero_le _, ⟨rfl, rfl, Nat.le_refl _, (show (0 : Nat) ≤ maxLen by decide)⟩⟩ (by repeat (first | exact EnvSub.nil | refine EnvSub.cons rfl (by first | rfl | (congr 1; done) | (exact congrArg (Value.int _) (by omega)) | (simp; done)) ?_)) (by repeat (first | exact MSub.nil | refine MSub.keep (by first | rfl | assumption) ?_ | refine MSub.drop ?_ | exact MSub.refl _)) ?_
    rintro ⟨j, b, c, r⟩ ⟨hj, hg⟩
    simp only at hj hg ⊢
    by_cases hlt : ([] : List Int).length + j < n
    · repeat (first | refine l_val rfl rfl (by first | exact pureEval_ok rfl ) ?_ | refine l_nil ?_ | refine c_region ?_ | refine c_seq ?_ | refine x_then ?_ | refine r_buildSlice rfl rfl rfl rfl rfl rfl (by rfl) (fun _ => ?_) | refine c_dec_t rfl (by first | omega ) ?_ | refine c_block ?_ | refine c_skip ?_ )
      refine r_append (m := 1) (ys := [.int .i64 0]) rfl rfl rfl rfl rfl rfl (news_own (by repeat (first | exact List.Mem.head _ | apply List.Mem.tail))) (by repeat (first | exact Rem.head | apply Rem.tail)) hg rfl rfl (by decide) (by omega) (by unfold maxLen; omega) (fun b8 c8 r8 hg8 => ?_)
      rw [← flatI_snoc, List.append_assoc, ← List.replicate_succ'] at hg8 ⊢
      repeat (first | refine l_val rfl rfl (by first | exact pureEval_ok rfl ) ?_ | refine l_nil ?_ | refine x_block ?_ )
      exact x_back ⟨j + 1, b8, c8, r8⟩ ⟨by simp only; omega, hg8⟩ (by simp only; omega) (by repeat (first | exact EnvSub.nil | refine EnvSub.cons rfl (by first | rfl | (congr 1; done) | (exact congrArg (Value.int _) (by omega)) | (simp; done)) ?_)) (by repeat (first | exact MSub.nil | refine MSub.keep (by first | rfl | assumption) ?_ | refine MSub.drop ?_ | exact MSub.refl _))
    · have hjn : j = n - ([] : List Int).length := by omega
      have hp : padL (([] : List Int)) n = ([] : List Int) ++ List.replicate j 0 := by rw [hjn]; rfl
      have hpl : (padL (([] : List Int)) n).length = ([] : List Int).length + j := by rw [hp, List.length_append, List.length_replicate]
      repeat (first | refine l_val rfl rfl (by first | exact pureEval_ok rfl ) ?_ | refine l_nil ?_ | refine c_region ?_ | refine c_seq ?_ | refine x_then ?_ | refine c_dec_f rfl (by first | omega ) ?_ | refine c_ret ?_ | refine c_exit ?_ | refine x_then_exit ?_ | refine x_block_same ?_ )
      exact x_ret rfl rfl (by repeat (first | exact Res.nil | (apply Res.tmp; rfl) | (apply Res.cell; rfl; exact (by repeat (first | exact List.Mem.head _ | apply List.Mem.tail)); rfl; rfl))) rfl (fun W hW => ⟨b, c, r, by first | (rw [hpl]; done) | (rw [hpl]; rfl), by rw [hpl, hp]; exact hg, hW.below, Nat.le_of_not_lt (hW.own (b, _) (by repeat (first | exact List.Mem.head _ | apply List.Mem.tail))).1, by rw [hp]; exact (hW.own (b, _) (by repeat (first | exact List.Mem.head _ | apply List.Mem.tail))).2⟩)
  | cons x l =>
    obtain ⟨b1, o1, rfl, -⟩ := ext_at hA (i := 0) (x := x) rfl
    refine r_append (n := 0) (xs := []) (rest := []) (m := (x :: l).length) (ys := flatI (x :: l)) rfl rfl rfl rfl rfl rfl (news_at hA) (by repeat (first | exact Rem.head | apply Rem.tail)) ⟨rfl, rfl, Nat.le_refl _, by decide⟩ (flatI_len _) (flatI_one _) (by decide) (by omega) (by unfold maxLen; omega) (fun b7 c7 r7 hg7 => ?_)
    rw [Nat.zero_add] at hg7 ⊢
    rw [List.nil_append] at hg7 ⊢
    generalize hL : x :: l = L at *
    rw [show flatI L = flatI (L ++ List.replicate 0 0) by simp] at hg7 ⊢
    repeat (first | refine l_val rfl rfl (by first | exact pureEval_ok rfl ) ?_ | refine l_nil ?_ | refine c_seq ?_ | refine x_then ?_ | refine c_block ?_ )
    refine c_loop (ι := FS) (fun s => L.length + s.j ≤ n ∧ Grow 1 (L.length + s.j) (flatI (L ++ List.replicate s.j 0)) s.c s.r) (fun s => [(5, .slice (some ⟨s.b, 0, none⟩) (L.length + s.j) s.c), (1, .int .i64 n)]) (fun s => [(s.b, .cells ⟨flatI (L ++ List.replicate s.j 0) ++ s.r⟩ 3 (0, 0))]) (fun s => n - s.j) ⟨0, b7, c7, r7⟩ ⟨hln, by simpa using hg7⟩ (by repeat (first | exact EnvSub.nil | refine EnvSub.cons rfl (by first | rfl | (congr 1; done) | (exact congrArg (Value.int _) (by omega)) | (simp; done)) ?_)) (by repeat (first | exact MSub.nil | refine MSub.keep (by first | rfl | assumption) ?_ | refine MSub.drop ?_ | exact MSub.refl _)) ?_
    rintro ⟨j, b, c, r⟩ ⟨hj, hg⟩
    simp only at hj hg ⊢
    by_cases hlt : L.length + j < n
    · repeat (first | refine l_val rfl rfl (by first | exact pureEval_ok rfl ) ?_ | refine l_nil ?_ | refine c_region ?_ | refine c_seq ?_ | refine x_then ?_ | refine r_buildSlice rfl rfl rfl rfl rfl rfl (by rfl) (fun _ => ?_) | refine c_dec_t rfl (by first | omega ) ?_ | refine c_block ?_ | refine c_skip ?_ )
      refine r_append (m := 1) (ys := [.int .i64 0]) rfl rfl rfl rfl rfl rfl (news_own (by repeat (first | exact List.Mem.head _ | apply List.Mem.tail))) (by repeat (first | exact Rem.head | apply Rem.tail)) hg rfl rfl (by decide) (by omega) (by unfold maxLen; omega) (fun b8 c8 r8 hg8 => ?_)
      rw [← flatI_snoc, List.append_assoc, ← List.replicate_succ'] at hg8 ⊢
      repeat (first | refine l_val rfl rfl (by first | exact pureEval_ok rfl ) ?_ | refine l_nil ?_ | refine x_block ?_ )
      exact x_back ⟨j + 1, b8, c8, r8⟩ ⟨by simp only; omega, hg8⟩ (by simp only; omega) (by repeat (first | exact EnvSub.nil | refine EnvSub.cons rfl (by first | rfl | (congr 1; done) | (exact congrArg (Value.int _) (by omega)) | (simp; done)) ?_)) (by repeat (first | exact MSub.nil | refine MSub.keep (by first | rfl | assumption) ?_ | refine MSub.drop ?_ | exact MSub.refl _))
    · have hjn : j = n - L.length := by omega
      have hp : padL (L) n = L ++ List.replicate j 0 := by rw [hjn]; rfl
      have hpl : (padL (L) n).length = L.length + j := by rw [hp, List.length_append, List.length_replicate]
      repeat (first | refine l_val rfl rfl (by first | exact pureEval_ok rfl ) ?_ | refine l_nil ?_ | refine c_region ?_ | refine c_seq ?_ | refine x_then ?_ | refine c_dec_f rfl (by first | omega ) ?_ | refine c_ret ?_ | refine c_exit ?_ | refine x_then_exit ?_ | refine x_block_same ?_ )
      exact x_ret rfl rfl (by repeat (first | exact Res.nil | (apply Res.tmp; rfl) | (apply Res.cell; rfl; exact (by repeat (first | exact List.Mem.head _ | apply List.Mem.tail)); rfl; rfl))) rfl (fun W hW => ⟨b, c, r, by first | (rw [hpl]; done) | (rw [hpl]; rfl), by rw [hpl, hp]; exact hg, hW.below, Nat.le_of_not_lt (hW.own (b, _) (by repeat (first | exact List.Mem.head _ | apply List.Mem.tail))).1, by rw [hp]; exact (hW.own (b, _) (by repeat (first | exact List.Mem.head _ | apply List.Mem.tail))).2⟩)

end R41
end Go.Proofs

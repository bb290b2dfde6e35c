/- Collating: the costs of what is left, row by row, in the specification. -/
import Derived.Test.YtobiefdkpiognaaClC
import Derived.Test.YtobiefdkpiognaaEng26
import Derived.Test.YtobiefdkpiognaaClPl
set_option linter.unusedSectionVars false
set_option linter.unusedVariables false
set_option linter.unusedSimpArgs false
namespace Go.Proofs
open Go.RowKit Go.Kin Go.Kin.Cl
namespace R41
theorem nodup1 (b : Nat) : [b].Nodup := by simp
/-- the rows that are done -/
structure RS where
  d : Nat
  W : World
  f : Nat → Value
  bs : Nat → Nat
theorem pure_at {W : World} {D : Nat → Prop} {A : Option Addr} {l : List Int} {w : World} (hA : Kin.At w A 1 (l.map inE)) (hS : Same (base w) w W) (hD : ∀ k, base w k → D k) {i : Nat} {x : Int} (hx : l[i]? = some x) : ∃ b o, A = some ⟨b, o, none⟩ ∧ Ext W D b (o + i) [.int .i64 x] := by
  obtain ⟨b, o, e, hc⟩ := ext_at hA hx
  refine ⟨b, o, e, ?_⟩
  have := ext_of hc
  rw [Nat.mul_one] at this
  exact this.move hS hD

set_option maxRecDepth 100000 in
set_option maxHeartbeats 40000000 in
theorem rest_calls (a b : List Int) (A B : Option Addr) (ca cb : Nat) (w : World) (hla : a.length ≤ 64) (hlb : b.length ≤ 64) (hA : Kin.At w A 1 (a.map inE)) (hB : Kin.At w B 1 (b.map inE)) :
    Calls Try.prog 49 ⟨[.slice A a.length ca, .slice B b.length cb]⟩ w fun e w' => ∃ bc : Nat, e = .returned (.slice (some ⟨bc, 0, none⟩) (a.length + 1) (a.length + 1)) ∧ Below w.heap.size w w' ∧
      ∃ bs : Nat → Nat, w.heap.size ≤ bc ∧ (∀ j, j < a.length + 1 → w.heap.size ≤ bs j) ∧ Mat w' (fun k => k < w'.heap.size) bc (a.length + 1) (b.length + 1) bs (fun i k => lf a b i k) := by
  refine fun_enter Try.func49 rfl Try.ntmps49 rfl rfl (satW_nil w) ?_
  repeat (first | refine l_val rfl rfl (by first | exact v_add rfl rfl (by omega) (by omega) | exact pureEval_ok rfl ) ?_ | refine l_nil ?_ | refine c_region ?_ | refine c_seq ?_ | refine x_then ?_ )
  refine r_make (n := a.length + 1) rfl rfl rfl rfl rfl rfl (by omega) (by omega) (by omega) rfl rfl flat_vec (fun bc => ?_)
  repeat (first | refine l_val rfl rfl (by first | exact pureEval_ok rfl ) ?_ | refine l_nil ?_ | refine c_region ?_ | refine c_seq ?_ | refine x_then ?_ | refine c_block ?_ )
  refine c_loopW (ι := RS) (fun s => s.d ≤ a.length + 1 ∧ Same (base w) w s.W ∧ (bc < s.W.heap.size ∧ w.heap.size ≤ bc) ∧ ∀ j, a.length + 1 - s.d ≤ j → j < a.length + 1 → s.f j = .slice (some ⟨s.bs j, 0, none⟩) (b.length + 1) (b.length + 1) ∧ w.heap.size ≤ s.bs j ∧ Ext s.W (allBut s.W [bc]) (s.bs j) 0 (ivec (b.length + 1) (lf a b j)))
    (fun _ => []) (fun s => s.W) (fun s => allBut s.W [bc]) (fun _ => noJ) (fun s => [(0, .slice A a.length ca), (1, .slice B b.length cb), (4, .slice none 0 0), (5, .slice (some ⟨bc, 0, none⟩) (a.length + 1) (a.length + 1)), (6, .int .i64 ((a.length : Int) - s.d))])
    (fun s => [(bc, .cells ⟨vec (a.length + 1) s.f⟩ 42 (0, 0))]) (fun s => a.length + 1 - s.d) (fun a0 W ha hm => ?_) ?_
  · have hm1 := hm.own (bc, _) (by repeat (first | exact List.Mem.head _ | apply List.Mem.tail))
    refine ⟨⟨0, W, fun _ => .slice none 0 0, fun _ => 0⟩, ⟨Nat.zero_le _, hm.same, ⟨hm.lt (p := (bc, _)) (by repeat (first | exact List.Mem.head _ | apply List.Mem.tail)), Nat.le_of_not_lt hm1.1⟩, fun j h1 h2 => absurd h2 (Nat.not_lt.2 h1)⟩, (show EnvSub _ [(0, .slice A a.length ca), (1, .slice B b.length cb), (4, .slice none 0 0), (5, .slice (some ⟨bc, 0, none⟩) (a.length + 1) (a.length + 1)), (6, .int .i64 ((a.length : Int) - ((0 : Nat) : Int)))] from (by repeat (first | exact EnvSub.nil | refine EnvSub.cons rfl (by first | rfl | (congr 1; done) | (exact congrArg (Value.int _) (by omega)) | (simp; done)) ?_))).sat ha, satW_fresh (m := [(bc, .cells ⟨vec (a.length + 1) fun _ => .slice none 0 0⟩ 42 (0, 0))]) (nodup1 bc) fun p hp => ?_⟩
    rw [List.mem_singleton.1 hp]
    exact hm1.2
  rintro ⟨d, W0, f, bs⟩ ⟨i1, i2, ⟨i3, i4⟩, i5⟩
  simp only at i1 i2 i3 i5
  have hD : ∀ k, base w k → allBut W0 [bc] k := fun k hk => ⟨Nat.lt_of_lt_of_le hk i2.size, fun h => by have := List.mem_singleton.1 h; unfold base at hk; omega⟩
  show RunC _ _ ⟨_, _, [], W0, allBut W0 [bc], noJ⟩ _ _ [(0, .slice A a.length ca), (1, .slice B b.length cb), (4, .slice none 0 0), (5, .slice (some ⟨bc, 0, none⟩) (a.length + 1) (a.length + 1)), (6, .int .i64 ((a.length : Int) - d))] [(bc, .cells ⟨vec (a.length + 1) f⟩ 42 (0, 0))]
  by_cases hd : d ≤ a.length
  · obtain ⟨i, hi⟩ : ∃ i, a.length - d = i := ⟨_, rfl⟩
    have hi2 : (a.length : Int) - d = i := by omega
    rw [hi2]
    repeat (first | refine l_val rfl rfl (by first | exact v_add rfl rfl (by omega) (by omega) | exact pureEval_ok rfl ) ?_ | refine l_nil ?_ | refine c_region ?_ | refine c_seq ?_ | refine x_then ?_ | refine c_true rfl ?_ | refine c_block ?_ | refine c_skip ?_ )
    refine r_make (n := b.length + 1) rfl rfl rfl rfl rfl rfl (by omega) (by omega) (by omega) rfl rfl flat_int (fun br => ?_)
    repeat (first | refine l_val rfl rfl (by first | exact v_index rfl rfl rfl rfl (by omega) (by omega) (by with_reducible first | exact idx1 _  ) ) ?_ )
    refine r_store_at rfl rfl rfl rfl rfl rfl (by repeat (first | exact Upd.head | apply Upd.tail)) (by rw [vec_length]; omega) vec_set ?_
    have hget : (vec (a.length + 1) fun j => if j = i then Value.slice (some ⟨br, 0, none⟩) (b.length + 1) (b.length + 1) else f j)[i]? = some (.slice (some ⟨br, 0, none⟩) (b.length + 1) (b.length + 1)) := by rw [vec_get (by omega), if_pos rfl]
    repeat (first | refine l_val rfl rfl (by first | exact pureEval_ok rfl ) ?_ | refine l_nil ?_ | refine c_region ?_ | refine c_seq ?_ | refine x_then ?_ | refine c_block ?_ )
    refine c_loop (ι := Nat × (Nat → Int)) (fun q => q.1 ≤ b.length + 1 ∧ ∀ k, b.length + 1 - q.1 ≤ k → k ≤ b.length → q.2 k = lf a b i k) (fun q => [(0, .slice A a.length ca), (1, .slice B b.length cb), (4, .slice none 0 0), (5, .slice (some ⟨bc, 0, none⟩) (a.length + 1) (a.length + 1)), (6, .int .i64 i), (7, .int .i64 ((b.length : Int) - q.1))])
      (fun q => [(br, .cells ⟨ivec (b.length + 1) q.2⟩ 3 (0, 0)), (bc, .cells ⟨vec (a.length + 1) fun j => if j = i then .slice (some ⟨br, 0, none⟩) (b.length + 1) (b.length + 1) else f j⟩ 42 (0, 0))]) (fun q => b.length + 1 - q.1) (0, fun _ => 0) ⟨by simp only; omega, fun k h1 h2 => by simp only at h1; omega⟩ (by repeat (first | exact EnvSub.nil | refine EnvSub.cons rfl (by first | rfl | (congr 1; done) | (exact congrArg (Value.int _) (by omega)) | (simp; done)) ?_)) (by repeat (first | exact MSub.nil | refine MSub.keep (by first | rfl | assumption) ?_ | refine MSub.drop ?_ | exact MSub.refl _)) ?_
    rintro ⟨e, g⟩ ⟨j1, j2⟩
    simp only at j1 j2 ⊢
    by_cases he : e ≤ b.length
    · obtain ⟨k, hk⟩ : ∃ k, b.length - e = k := ⟨_, rfl⟩
      have hk2 : (b.length : Int) - e = k := by omega
      rw [hk2]
      have hnext : ∀ v : Int, v = lf a b i k → ∀ k', b.length + 1 - (e + 1) ≤ k' → k' ≤ b.length → iset g k v k' = lf a b i k' := fun v hv k' h1 h2 => by
        unfold iset
        by_cases h : k' = k
        · rw [if_pos h, hv, h]
        · rw [if_neg h]; exact j2 k' (by omega) h2
      by_cases hend : i = a.length ∨ k = b.length
      · have hv := lf_end (a := a) (b := b) (i := i) (k := k) (by omega) (by omega) hend
        have hnext := hnext _ hv.symm
        clear i5 j2
        by_cases h1 : i = a.length
        · clear hend
          repeat (first | refine l_val rfl rfl (by first | exact v_add rfl rfl (by omega) (by omega) | exact v_sub rfl rfl (by omega) (by omega) | exact v_mul rfl rfl (by omega) (by omega) | exact pureEval_ok rfl | exact v_index rfl rfl rfl rfl (by omega) (by omega) (by with_reducible first | exact idx1 _  ) | exact v_load_at rfl (by repeat (first | exact List.Mem.head _ | apply List.Mem.tail)) rfl rfl (by first | assumption ) ) ?_ | refine l_nil ?_ | refine c_region ?_ | refine c_seq ?_ | refine x_then ?_ | refine l_skip rfl rfl ?_ | refine r_store_at rfl rfl rfl rfl rfl rfl (by repeat (first | exact Upd.head | apply Upd.tail)) (by first | (rw [ivec_length]; omega) ) (by first | exact ivec_set ) ?_ | refine c_true rfl ?_ | refine c_block ?_ | refine c_skip ?_ | refine c_exit ?_ | refine x_then_exit ?_ | refine x_block_same ?_ | refine l_dec_t rfl rfl rfl rfl rfl (by first | omega ) ?_ )
          refine x_back (e + 1, iset g k (2 * ((a.length : Int) - i + b.length - k))) ⟨by simp only; omega, hnext⟩ (by simp only; omega) (by repeat (first | exact EnvSub.nil | refine EnvSub.cons rfl (by first | rfl | (congr 1; done) | (exact congrArg (Value.int _) (by omega)) | (simp; done)) ?_)) (by repeat (first | exact MSub.nil | refine MSub.keep (by first | rfl | assumption) ?_ | refine MSub.drop ?_ | exact MSub.refl _))
        · have h2 : k = b.length := by omega
          clear hend
          repeat (first | refine l_val rfl rfl (by first | exact v_add rfl rfl (by omega) (by omega) | exact v_sub rfl rfl (by omega) (by omega) | exact v_mul rfl rfl (by omega) (by omega) | exact pureEval_ok rfl | exact v_index rfl rfl rfl rfl (by omega) (by omega) (by with_reducible first | exact idx1 _  ) | exact v_load_at rfl (by repeat (first | exact List.Mem.head _ | apply List.Mem.tail)) rfl rfl (by first | assumption ) ) ?_ | refine l_nil ?_ | refine c_region ?_ | refine c_seq ?_ | refine x_then ?_ | refine r_store_at rfl rfl rfl rfl rfl rfl (by repeat (first | exact Upd.head | apply Upd.tail)) (by first | (rw [ivec_length]; omega) ) (by first | exact ivec_set ) ?_ | refine c_true rfl ?_ | refine c_dec_t rfl (by first | omega ) ?_ | refine c_block ?_ | refine c_skip ?_ | refine c_exit ?_ | refine x_then_exit ?_ | refine x_block_same ?_ | refine l_dec_f rfl rfl rfl rfl rfl (by first | omega ) ?_ )
          refine x_back (e + 1, iset g k (2 * ((a.length : Int) - i + b.length - k))) ⟨by simp only; omega, hnext⟩ (by simp only; omega) (by repeat (first | exact EnvSub.nil | refine EnvSub.cons rfl (by first | rfl | (congr 1; done) | (exact congrArg (Value.int _) (by omega)) | (simp; done)) ?_)) (by repeat (first | exact MSub.nil | refine MSub.keep (by first | rfl | assumption) ?_ | refine MSub.drop ?_ | exact MSub.refl _))
      · have h1 : i < a.length := by omega
        have h2 : k < b.length := by omega
        clear hend
        obtain ⟨x, hx⟩ : ∃ x, a[i]? = some x := ⟨_, List.getElem?_eq_getElem h1⟩
        obtain ⟨y, hy⟩ : ∃ y, b[k]? = some y := ⟨_, List.getElem?_eq_getElem h2⟩
        obtain ⟨bA, oA, hAe, gA⟩ := pure_at hA i2 hD hx
        obtain ⟨bB, oB, hBe, gB⟩ := pure_at hB i2 hD hy
        subst hAe hBe
        obtain ⟨f1, f2, f3⟩ := i5 (i + 1) (by omega) (by omega)
        have hget2 : (vec (a.length + 1) fun j => if j = i then Value.slice (some ⟨br, 0, none⟩) (b.length + 1) (b.length + 1) else f j)[((i : Int) + 1).toNat]? = some (.slice (some ⟨bs (i + 1), 0, none⟩) (b.length + 1) (b.length + 1)) := by
          rw [show ((i : Int) + 1).toNat = i + 1 by omega, vec_get (by omega), if_neg (by omega), f1]
        have q1 : Ext W0 (allBut W0 [bc]) (bs (i + 1)) k [.int .i64 (lf a b (i + 1) k)] := by have := f3.at (ivec_get (f := lf a b (i + 1)) (show k < b.length + 1 by omega)); rwa [Nat.zero_add] at this
        have q2 : Ext W0 (allBut W0 [bc]) (bs (i + 1)) ((k : Int) + 1).toNat [.int .i64 (lf a b (i + 1) (k + 1))] := by have := f3.at (ivec_get (f := lf a b (i + 1)) (show k + 1 < b.length + 1 by omega)); rw [Nat.zero_add] at this; rwa [show ((k : Int) + 1).toNat = k + 1 by omega]
        have q3 : g ((k : Int) + 1).toNat = lf a b i (k + 1) := by rw [show ((k : Int) + 1).toNat = k + 1 by omega]; exact j2 (k + 1) (by omega) (by omega)
        have b1 := lf_bd a b (i + 1) (k + 1) (by omega) (by omega)
        have b2 := lf_bd a b (i + 1) k (by omega) (by omega)
        have b3 := lf_bd a b i (k + 1) (by omega) (by omega)
        have b4 := bes_bd x y
        have hs := lf_step hx hy
        rw [← q3] at hs b3
        have hnext := fun v hv => hnext v hv
        clear i5 j2 q3 f1 f2 f3
        have hs' := fun (_ : Unit) => hs
        clear hs
        repeat (first | refine l_val rfl rfl (by first | exact v_sub rfl rfl (by omega) (by omega) | exact pureEval_ok rfl ) ?_ | refine l_nil ?_ | refine c_region ?_ | refine c_seq ?_ | refine x_then ?_ | refine c_true rfl ?_ | refine c_dec_f rfl (by first | omega | exact fun h => h rfl ) ?_ | refine c_block ?_ | refine c_skip ?_ | refine x_block ?_ | refine l_dec_f rfl rfl rfl rfl rfl (by first | omega ) ?_ | refine c_cut rfl (by decide +kernel) ?_ | refine h_val rfl rfl (by first | exact v_add rfl rfl (by omega) (by omega) | exact pureEval_ok rfl | exact v_load_ext0 rfl (by assumption) rfl (by rfl) | exact v_index rfl rfl rfl rfl (by omega) (by omega) (by with_reducible first | exact idx1 _  | exact idx2 _ _  | exact idx5 _  ) | exact v_load_at rfl (by repeat (first | exact List.Mem.head _ | apply List.Mem.tail)) rfl rfl (by first | exact ivec_get (by omega) | assumption ) | exact v_min3 rfl rfl rfl ) ?_ | refine h_do1 rfl (by decide +kernel) (by decide +kernel) rfl rfl (by first | exact d_store_at rfl rfl rfl rfl rfl (by repeat (first | exact Upd.head | apply Upd.tail)) (by first | (rw [ivec_length]; omega) ) (by first | exact ivec_set ) ) ?_ | (refine h_call rfl rfl rfl (fun W hW => Beside_calls x y W) ?_) )
        refine x_back (e + 1, iset g k (min (min (bes x y + lf a b (i + 1) (k + 1)) (2 + lf a b (i + 1) k)) (2 + g ((k : Int) + 1).toNat))) ⟨by simp only; omega, hnext _ (hs' ()).symm⟩ (by simp only; omega) (by repeat (first | exact EnvSub.nil | refine EnvSub.cons rfl (by first | rfl | (congr 1; done) | (exact congrArg (Value.int _) (by omega)) | (simp; done)) ?_)) (by repeat (first | exact MSub.nil | refine MSub.keep (by first | rfl | assumption) ?_ | refine MSub.drop ?_ | exact MSub.refl _))
    · have he2 : e = b.length + 1 := by omega
      subst he2
      rw [show (b.length : Int) - ((b.length + 1 : Nat) : Int) = -1 by omega]
      repeat (first | refine l_val rfl rfl (by first | exact v_sub rfl rfl (by omega) (by omega) | exact pureEval_ok rfl ) ?_ | refine l_nil ?_ | refine c_region ?_ | refine c_seq ?_ | refine x_then ?_ | refine c_false rfl ?_ | refine c_exit ?_ | refine x_then_exit ?_ | refine x_block ?_ | refine x_block_same ?_ )
      refine x_backW fun a0 W ha hm => ?_
      have o1 := hm.own (br, _) (by repeat (first | exact List.Mem.head _ | apply List.Mem.tail))
      have o2 := hm.own (bc, _) (by repeat (first | exact List.Mem.head _ | apply List.Mem.tail))
      have hnd := hm.nodup
      simp only [List.map_cons, List.map_nil, List.nodup_cons, List.mem_singleton] at hnd
      refine ⟨⟨d + 1, W, fun j => if j = i then .slice (some ⟨br, 0, none⟩) (b.length + 1) (b.length + 1) else f j, fun j => if j = i then br else bs j⟩, ⟨(show d + 1 ≤ a.length + 1 by omega), i2.trans (hm.same.mono hD), ⟨hm.lt (p := (bc, _)) (by repeat (first | exact List.Mem.head _ | apply List.Mem.tail)), i4⟩, fun j h1 h2 => ?_⟩, (show a.length + 1 - (d + 1) < a.length + 1 - d by omega), (show EnvSub _ [(0, .slice A a.length ca), (1, .slice B b.length cb), (4, .slice none 0 0), (5, .slice (some ⟨bc, 0, none⟩) (a.length + 1) (a.length + 1)), (6, .int .i64 ((a.length : Int) - ((d + 1 : Nat) : Int)))] from (by repeat (first | exact EnvSub.nil | refine EnvSub.cons rfl (by first | rfl | (congr 1; done) | (exact congrArg (Value.int _) (by omega)) | (simp; done)) ?_))).sat ha, satW_fresh (m := [(bc, .cells ⟨vec (a.length + 1) fun j => if j = i then .slice (some ⟨br, 0, none⟩) (b.length + 1) (b.length + 1) else f j⟩ 42 (0, 0))]) (nodup1 bc) fun p hp => by rw [List.mem_singleton.1 hp]; exact o2.2⟩
      simp only at h1 ⊢
      have hfr : w.heap.size ≤ br := by
        have := o1.1
        unfold allBut at this
        have hW0 := i2.size
        have hne : br ≠ bc := hnd.1
        by_cases hb : br < W0.heap.size
        · exact absurd ⟨hb, by simp [hne]⟩ this
        · omega
      by_cases hj : j = i
      · rw [if_pos hj, if_pos hj]
        refine ⟨rfl, hfr, ⟨⟨lt_of_heap o1.2, by simp [hnd.1]⟩, fun n v hn => ?_⟩⟩
        have ho := o1.2
        unfold World.cell?
        rw [ho, Nat.zero_add]
        have : ivec (b.length + 1) g = ivec (b.length + 1) (lf a b j) := by
          apply List.ext_getElem?
          intro n
          by_cases hn : n < b.length + 1
          · rw [ivec_get hn, ivec_get hn, j2 n (by omega) (by omega), hj]
          · rw [List.getElem?_eq_none (by rw [ivec_length]; omega), List.getElem?_eq_none (by rw [ivec_length]; omega)]
        rw [← this] at hn
        simpa using hn
      · rw [if_neg hj, if_neg hj]
        obtain ⟨f1, f2, f3⟩ := i5 j (by omega) h2
        refine ⟨f1, f2, f3.move hm.same fun k hk => ?_⟩
        exact ⟨Nat.lt_of_lt_of_le hk.1 hm.same.size, hk.2⟩
  · have hd2 : d = a.length + 1 := by omega
    subst hd2
    rw [show (a.length : Int) - ((a.length + 1 : Nat) : Int) = -1 by omega]
    repeat (first | refine l_val rfl rfl (by first | exact pureEval_ok rfl ) ?_ | refine l_nil ?_ | refine c_region ?_ | refine c_seq ?_ | refine x_then ?_ | refine c_false rfl ?_ | refine c_ret ?_ | refine c_exit ?_ | refine x_then_exit ?_ | refine x_block_same ?_ )
    refine x_ret rfl rfl (by repeat (first | exact Res.nil | (apply Res.tmp; rfl) | (apply Res.cell; rfl; exact (by repeat (first | exact List.Mem.head _ | apply List.Mem.tail)); rfl; rfl))) rfl (fun W hW => ?_)
    have o2 := (hW.own (bc, _) (by repeat (first | exact List.Mem.head _ | apply List.Mem.tail))).2
    refine ⟨bc, rfl, (i2.trans (hW.same.mono hD)).below (Nat.le_refl _) fun _ hk => hk, bs, i4, fun j hj => (i5 j (by omega) hj).2.1, ?_, fun j hj => ((i5 j (by omega) hj).2.2).move hW.same fun k hk => Nat.lt_of_lt_of_le hk.1 hW.same.size⟩
    refine ⟨lt_of_heap o2, fun n v hn => ?_⟩
    unfold World.cell?
    rw [o2, Nat.zero_add]
    have : vec (a.length + 1) f = vec (a.length + 1) fun j => .slice (some ⟨bs j, 0, none⟩) (b.length + 1) (b.length + 1) := by
      apply List.ext_getElem?
      intro n
      by_cases hn : n < a.length + 1
      · rw [vec_get hn, vec_get hn, (i5 n (by omega) hn).1]
      · rw [List.getElem?_eq_none (by rw [vec_length]; omega), List.getElem?_eq_none (by rw [vec_length]; omega)]
    rw [← this] at hn
    simpa using hn
end R41
end Go.Proofs

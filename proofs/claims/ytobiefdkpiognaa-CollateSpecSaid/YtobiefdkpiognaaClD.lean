/- Collating: the least cost of what is left, noted in a map. -/
import Derived.Test.YtobiefdkpiognaaClC
import Derived.Test.YtobiefdkpiognaaEng26
set_option linter.unusedSectionVars false
set_option linter.unusedVariables false
set_option linter.unusedSimpArgs false
namespace Go.Proofs
open Go.RowKit Go.Kin Go.Kin.Cl
namespace R41
theorem ti58 : TIOk Try.prog 58 ⟨.other, 1, 8, .nilFunc⟩ := ti_mk (tk_other (by kernel_rfl)) (by kernel_rfl)
def tt2 : List (TypeId × TI) := (58, ⟨.other, 1, 8, .nilFunc⟩) :: tt
instance (priority := high) : TT Try.prog tt2 := ⟨tt_cons ti58 (TT.ok (P := Try.prog) (tt := tt))⟩
/-- what is left -/
def lft (a b : List Int) (i k : Int) : Int := ac (a.drop i.toNat) (b.drop k.toNat)
def Db (w : World) (bm : Nat) : Nat → Prop := fun k => k < w.heap.size ∧ k ≠ bm
@[reducible] def capsL (x2 x3 x4 x5 : Nat) : List Value := [.pointer (some ⟨x2, 0, none⟩), .pointer (some ⟨x3, 0, none⟩), .pointer (some ⟨x4, 0, none⟩), .pointer (some ⟨x5, 0, none⟩)]
/-- the world in which the closure works -/
structure LW (a b : List Int) (A B : Option Addr) (ca cb x2 x3 x4 x5 bm : Nat) (w : World) : Prop where
  e2 : Ext w (Db w bm) x2 0 [.slice A a.length ca]
  e3 : Ext w (Db w bm) x3 0 [.slice B b.length cb]
  e4 : Ext w (Db w bm) x4 0 [.map (some bm)]
  e5 : Ext w (Db w bm) x5 0 [.func (.func 46) ⟨[]⟩ ⟨capsL x2 x3 x4 x5⟩]
  eA : ∀ (i : Nat) (x : Int), a[i]? = some x → ∃ b o, A = some ⟨b, o, none⟩ ∧ Ext w (Db w bm) b (o + i) [.int .i64 x]
  eB : ∀ (i : Nat) (x : Int), b[i]? = some x → ∃ b o, B = some ⟨b, o, none⟩ ∧ Ext w (Db w bm) b (o + i) [.int .i64 x]
  mp : ∃ ents clock, w.heap[bm]? = some (.map ⟨ents⟩ clock) ∧ ∀ e ∈ ents, EntF (lft a b) e
theorem db_move {w W : World} {bm : Nat} (hS : Same (Db w bm) w W) {k : Nat} (h : Db w bm k) : Db W bm k := ⟨Nat.lt_of_lt_of_le h.1 hS.size, h.2⟩
theorem LW.move {a b : List Int} {A B : Option Addr} {ca cb x2 x3 x4 x5 bm : Nat} {w W : World} (h : LW a b A B ca cb x2 x3 x4 x5 bm w) (hS : Same (Db w bm) w W) (hm : ∃ ents clock, W.heap[bm]? = some (.map ⟨ents⟩ clock) ∧ ∀ e ∈ ents, EntF (lft a b) e) : LW a b A B ca cb x2 x3 x4 x5 bm W :=
  ⟨h.e2.move hS fun _ => db_move hS, h.e3.move hS fun _ => db_move hS, h.e4.move hS fun _ => db_move hS, h.e5.move hS fun _ => db_move hS,
    fun i x hi => by obtain ⟨b, o, e, g⟩ := h.eA i x hi; exact ⟨b, o, e, g.move hS fun _ => db_move hS⟩,
    fun i x hi => by obtain ⟨b, o, e, g⟩ := h.eB i x hi; exact ⟨b, o, e, g.move hS fun _ => db_move hS⟩, hm⟩
theorem LW.sat {a b : List Int} {A B : Option Addr} {ca cb x2 x3 x4 x5 bm : Nat} {w W : World} {mem : List (Nat × Obj)} (h : LW a b A B ca cb x2 x3 x4 x5 bm w) (hW : SatW w (Db w bm) (MapJ bm (lft a b)) mem W) : LW a b A B ca cb x2 x3 x4 x5 bm W :=
  h.move hW.same hW.word.2.2
theorem lft_end {a b : List Int} {i k : Nat} (hi : i ≤ a.length) (hk : k ≤ b.length) (h : i = a.length ∨ k = b.length) : lft a b i k = 2 * ((a.length : Int) - i + b.length - k) := by
  unfold lft
  rw [Int.toNat_natCast, Int.toNat_natCast]
  rcases h with h | h
  · rw [h, List.drop_length, ac_nil_left, List.length_drop]; omega
  · rw [h, List.drop_length, ac_nil_right, List.length_drop]; omega
theorem lft_step {a b : List Int} {i k : Nat} {x y : Int} (hx : a[i]? = some x) (hy : b[k]? = some y) : lft a b i k = min (min (bes x y + lft a b ((i : Int) + 1) ((k : Int) + 1)) (2 + lft a b ((i : Int) + 1) k)) (2 + lft a b i ((k : Int) + 1)) := by
  obtain ⟨hi, hx⟩ := List.getElem?_eq_some_iff.1 hx
  obtain ⟨hk, hy⟩ := List.getElem?_eq_some_iff.1 hy
  unfold lft
  rw [show ((i : Int) + 1).toNat = i + 1 by omega, show ((k : Int) + 1).toNat = k + 1 by omega, Int.toNat_natCast, Int.toNat_natCast, List.drop_eq_getElem_cons hi, List.drop_eq_getElem_cons hk, hx, hy, ac_cons]
theorem lft_bd (a b : List Int) (i k : Int) (ha : a.length ≤ 64) (hb : b.length ≤ 64) : 0 ≤ lft a b i k ∧ lft a b i k ≤ 256 := by
  have := ac_bd (a.drop i.toNat) (b.drop k.toNat)
  unfold lft
  rw [List.length_drop, List.length_drop] at this
  omega

set_option maxRecDepth 100000 in
set_option maxHeartbeats 8000000 in
theorem least_calls (a b : List Int) (A B : Option Addr) (ca cb x2 x3 x4 x5 bm : Nat) (ha : a.length ≤ 64) (hb : b.length ≤ 64) : ∀ (n i k : Nat) (I K : Int), I = i → K = k → i ≤ a.length → k ≤ b.length → (a.length - i) + (b.length - k) ≤ n → ∀ w, LW a b A B ca cb x2 x3 x4 x5 bm w →
    Calls Try.prog 46 ⟨[.int .i64 I, .int .i64 K] ++ capsL x2 x3 x4 x5⟩ w fun e w' => e = .returned (.int .i64 (lft a b I K)) ∧ Same (fun k => k ≠ bm) w w' ∧ ∃ ents clock, w'.heap[bm]? = some (.map ⟨ents⟩ clock) ∧ ∀ e ∈ ents, EntF (lft a b) e
  | n, i, k, I, K, hI, hK, hi, hk, hn, w, hw => by
    subst hI hK
    have e2 := hw.e2
    have e3 := hw.e3
    have e4 := hw.e4
    have e5 := hw.e5
    have hDb : ¬ Db w bm bm := fun h => h.2 rfl
    have hsat : SatW w (Db w bm) (MapJ bm (lft a b)) [] w := by
      obtain ⟨ents, clock, h1, h2⟩ := hw.mp
      exact ⟨Same.refl _ _, fun _ h => h.1, List.nodup_nil, fun p hp => (by cases hp), closed_mapJ _ _, lt_of_heap h1, fun h => by simp [keys] at h, ents, clock, h1, h2⟩
    have hfin : ∀ {W : World} {mem : List (Nat × Obj)}, SatW w (Db w bm) (MapJ bm (lft a b)) mem W → Same (fun k => k ≠ bm) w W ∧ ∃ ents clock, W.heap[bm]? = some (.map ⟨ents⟩ clock) ∧ ∀ e ∈ ents, EntF (lft a b) e :=
      fun hW => ⟨hW.same.monoLt fun b hb hne => ⟨hb, hne⟩, hW.word.2.2⟩
    refine fun_enter Try.func46 rfl Try.ntmps46 rfl rfl hsat ?_
    by_cases hend : i = a.length ∨ k = b.length
    · have hv := lft_end hi hk hend
      by_cases h1 : i = a.length
      · clear hend
        repeat (first | refine l_val rfl rfl (by first | exact v_add rfl rfl (by omega) (by omega) | exact v_sub rfl rfl (by omega) (by omega) | exact v_mul rfl rfl (by omega) (by omega) | exact pureEval_ok rfl | exact v_load_ext0 rfl (by assumption) rfl (by rfl) ) ?_ | refine l_nil ?_ | refine c_region ?_ | refine c_seq ?_ | refine x_then ?_ | refine l_skip rfl rfl ?_ | refine c_true rfl ?_ | refine c_ret ?_ | refine x_then_ret ?_ | refine l_dec_t rfl rfl rfl rfl rfl (by first | omega ) ?_ )
        exact x_ret rfl rfl (by repeat (first | exact Res.nil | (apply Res.tmp; rfl) | (apply Res.cell; rfl; exact (by repeat (first | exact List.Mem.head _ | apply List.Mem.tail)); rfl; rfl))) rfl (fun W hW => ⟨by rw [hv], hfin hW⟩)
      · have h2 : k = b.length := by omega
        clear hend
        repeat (first | refine l_val rfl rfl (by first | exact v_add rfl rfl (by omega) (by omega) | exact v_sub rfl rfl (by omega) (by omega) | exact v_mul rfl rfl (by omega) (by omega) | exact pureEval_ok rfl | exact v_load_ext0 rfl (by assumption) rfl (by rfl) ) ?_ | refine l_nil ?_ | refine c_region ?_ | refine c_seq ?_ | refine x_then ?_ | refine c_dec_t rfl (by first | omega ) ?_ | refine c_ret ?_ | refine x_then_ret ?_ | refine l_dec_f rfl rfl rfl rfl rfl (by first | omega ) ?_ )
        exact x_ret rfl rfl (by repeat (first | exact Res.nil | (apply Res.tmp; rfl) | (apply Res.cell; rfl; exact (by repeat (first | exact List.Mem.head _ | apply List.Mem.tail)); rfl; rfl))) rfl (fun W hW => ⟨by rw [hv], hfin hW⟩)
    have h1 : i < a.length := by omega
    have h2 : k < b.length := by omega
    clear hend
    obtain ⟨x, hx⟩ : ∃ x, a[i]? = some x := ⟨_, List.getElem?_eq_getElem h1⟩
    obtain ⟨y, hy⟩ : ∃ y, b[k]? = some y := ⟨_, List.getElem?_eq_getElem h2⟩
    obtain ⟨bA, oA, rfl, eA⟩ := hw.eA i x hx
    obtain ⟨bB, oB, rfl, eB⟩ := hw.eB k y hy
    have hs := lft_step hx hy
    cases n with
    | zero => omega
    | succ n =>
      have IH : ∀ (i' k' : Nat) (I K : Int), I = i' → K = k' → i' ≤ a.length → k' ≤ b.length → (a.length - i') + (b.length - k') ≤ n → ∀ (mem : List (Nat × Obj)) (W : World), SatW w (Db w bm) (MapJ bm (lft a b)) mem W →
          Calls Try.prog 46 ⟨[.int .i64 I, .int .i64 K, .pointer (some ⟨x2, 0, none⟩), .pointer (some ⟨x3, 0, none⟩), .pointer (some ⟨x4, 0, none⟩), .pointer (some ⟨x5, 0, none⟩)]⟩ W (fun e W' => e = .returned (.int .i64 (lft a b I K)) ∧ SatW w (Db w bm) (MapJ bm (lft a b)) mem W') := by
        intro i' k' I K h1 h2 h3 h4 h5 mem W hW
        refine (least_calls a b (some ⟨bA, oA, none⟩) (some ⟨bB, oB, none⟩) ca cb x2 x3 x4 x5 bm ha hb n i' k' I K h1 h2 h3 h4 h5 W (hw.sat hW)).mono ?_
        rintro e W' ⟨g1, g2, ents, clock, g3, g4⟩
        exact ⟨g1, satW_mapJ hW hDb g2 g3 g4⟩
      have c1 := IH (i + 1) (k + 1) ((i : Int) + 1) ((k : Int) + 1) (by omega) (by omega) (by omega) (by omega) (by omega)
      have c2 := IH (i + 1) k ((i : Int) + 1) (k : Int) (by omega) (by omega) (by omega) (by omega) (by omega)
      have c3 := IH i (k + 1) (i : Int) ((k : Int) + 1) (by omega) (by omega) (by omega) (by omega) (by omega)
      clear IH
      have b1 := lft_bd a b ((i : Int) + 1) ((k : Int) + 1) ha hb
      have b2 := lft_bd a b ((i : Int) + 1) k ha hb
      have b3 := lft_bd a b i ((k : Int) + 1) ha hb
      have b4 := bes_bd x y
      obtain ⟨G, hG⟩ : ∃ G, lft a b i k = G := ⟨_, rfl⟩
      rw [hG] at hs ⊢
      have hs := fun (_ : Unit) => hs
      repeat (first | refine l_val rfl rfl (by first | exact pureEval_ok rfl | exact v_load_ext0 rfl (by assumption) rfl (by rfl) | exact v_buildA rfl rfl rfl (by rfl) ) ?_ | refine l_nil ?_ | refine c_region ?_ | refine c_seq ?_ | refine x_then ?_ | refine c_dec_f rfl (by first | omega ) ?_ | refine c_skip ?_ | refine l_dec_f rfl rfl rfl rfl rfl (by first | omega ) ?_ )
      refine l_lookupF (b := bm) (G := lft a b) (i := i) (k := k) rfl rfl rfl rfl rfl rfl rfl rfl rfl ?_ ?_
      · rw [hG]
        repeat (first | refine l_val rfl rfl (by first | exact pureEval_ok rfl ) ?_ | refine l_nil ?_ | refine c_region ?_ | refine c_seq ?_ | refine x_then ?_ | refine c_false rfl ?_ | refine c_skip ?_ | refine c_ret ?_ )
        exact x_ret rfl rfl (by repeat (first | exact Res.nil | (apply Res.tmp; rfl) | (apply Res.cell; rfl; exact (by repeat (first | exact List.Mem.head _ | apply List.Mem.tail)); rfl; rfl))) rfl (fun W hW => ⟨rfl, hfin hW⟩)
      · repeat (first | refine l_val rfl rfl (by first | exact pureEval_ok rfl ) ?_ | refine l_nil ?_ | refine c_region ?_ | refine c_seq ?_ | refine x_then ?_ | refine c_true rfl ?_ | refine c_reads rfl (by decide +kernel) ?_ | refine q_val rfl rfl (by first | exact v_add rfl rfl (by omega) (by omega) | exact pureEval_ok rfl | exact v_load_ext0 rfl (by assumption) rfl (by rfl) | exact v_index rfl rfl rfl rfl (by omega) (by omega) (by with_reducible first | exact idx2 _ _  ) ) ?_ | (refine q_call rfl rfl rfl (fun W hW => beside_calls x y W) ?_) )
        refine q_callvJ rfl rfl rfl rfl rfl (fun W hW => c1 _ W hW) ?_
        repeat (first | refine q_val rfl rfl (by first | exact v_add rfl rfl (by omega) (by omega) | exact pureEval_ok rfl | exact v_load_ext0 rfl (by assumption) rfl (by rfl) ) ?_ )
        refine q_callvJ rfl rfl rfl rfl rfl (fun W hW => c2 _ W hW) ?_
        repeat (first | refine q_val rfl rfl (by first | exact v_add rfl rfl (by omega) (by omega) | exact pureEval_ok rfl | exact v_load_ext0 rfl (by assumption) rfl (by rfl) ) ?_ )
        refine q_callvJ rfl rfl rfl rfl rfl (fun W hW => c3 _ W hW) ?_
        repeat (first | refine l_val rfl rfl (by first | exact pureEval_ok rfl | exact v_load_ext0 rfl (by assumption) rfl (by rfl) | exact v_buildA rfl rfl rfl (by rfl) ) ?_ | refine c_region ?_ | refine x_then ?_ | refine q_val rfl rfl (by first | exact v_add rfl rfl (by omega) (by omega) | exact pureEval_ok rfl | exact v_min3 rfl rfl rfl ) ?_ | refine q_nil ?_ )
        refine l_noteF (b := bm) (G := lft a b) (i := i) (k := k) rfl hDb rfl rfl rfl (by rw [hG, hs ()]; rfl) rfl rfl rfl ?_
        repeat (first | refine l_val rfl rfl (by first | exact pureEval_ok rfl ) ?_ | refine l_nil ?_ | refine c_region ?_ | refine c_seq ?_ | refine x_then ?_ | refine c_ret ?_ )
        exact x_ret rfl rfl (by repeat (first | exact Res.nil | (apply Res.tmp; rfl) | (apply Res.cell; rfl; exact (by repeat (first | exact List.Mem.head _ | apply List.Mem.tail)); rfl; rfl))) rfl (fun W hW => ⟨by rw [hs ()], hfin hW⟩)
end R41
end Go.Proofs

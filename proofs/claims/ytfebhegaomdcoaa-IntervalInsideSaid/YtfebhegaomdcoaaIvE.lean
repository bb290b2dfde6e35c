/- Intervals: products, walked. -/
import Derived.Test.YtfebhegaomdcoaaIvD
set_option linter.unusedSectionVars false
set_option linter.unusedVariables false
set_option linter.unusedSimpArgs false
namespace Go.Proofs
open Go.RowKit Go.Kin Go.Kin.Iv
namespace R21

/-- what the products' iterator reads: its two boxes, and what came in -/
def Rd (w : World) (y z : Nat) : Nat → Prop := fun k => base w k ∨ k = y ∨ k = z
theorem it_of {w W W1 : World} {J : (Nat → Prop) → World → Prop} {mem : List (Nat × Obj)} {y z : Nat} {a b c d : Int} (h1 : vB a b = true) (h2 : vB c d = true)
    (hm : SatW w (base w) J mem W) (hy : (y, Obj.cells ⟨rgE a b⟩ 23 (0, 0)) ∈ mem) (hz : (z, Obj.cells ⟨rgE c d⟩ 23 (0, 0)) ∈ mem) (hs : Same (fun _ => True) W W1) : It Try.prog 52 [.pointer (some ⟨y, 0, none⟩), .pointer (some ⟨z, 0, none⟩)] prE (prL a b c d) (Rd w y z) W1 := by
  have hlt := hm.lt hy
  have hlt2 := hm.lt hz
  simp only at hlt hlt2
  have hsz := hs.size
  refine products_it (Rd w y z) y z a b c d W1 h1 h2 (hs.obj (hm.own _ hy).2 trivial) (hs.obj (hm.own _ hz).2 trivial) ?_ (.inr (.inl rfl)) (.inr (.inr rfl))
  rintro k (hk | rfl | rfl)
  · have := hm.same.size; unfold base at hk; omega
  · omega
  · omega

/-- how far the products are gathered -/
inductive MS where
  | none
  | some (k y cap : Nat) (rest : List Value)
  | bad
def MS.at : MS → Nat
  | .none => 0
  | .some k _ _ _ => k
  | .bad => 0
def ints (l : List Int) : List Value := l.map fun n => .int .i64 n
theorem ints_flat (l : List Int) : (l.map inE).flatten = ints l := by
  induction l with
  | nil => rfl
  | cons x l ih => simp only [List.map_cons, List.flatten_cons, ih]; rfl
def MS.ok (l : List Int) : MS → Prop
  | .none => True
  | .some k _ cap rest => 0 < k ∧ k ≤ l.length ∧ (l.take k).all fitB = true ∧ Grow 1 k (ints (l.take k)) cap rest
  | .bad => False
def MS.mem (l : List Int) (b4 b5 b6 : Nat) : MS → List (Nat × Obj)
  | .none => [(b6, .cells ⟨[.slice Option.none 0 0]⟩ 55 (0, 0)), (b5, .cells ⟨[.int .i64 0]⟩ 25 (0, 0)), (b4, .cells ⟨rgE 0 0⟩ 23 (0, 0))]
  | .some k y cap rest => [(y, .cells ⟨ints (l.take k) ++ rest⟩ 3 (0, 0)), (b6, .cells ⟨[.slice (Option.some ⟨y, 0, Option.none⟩) k cap]⟩ 55 (0, 0)), (b5, .cells ⟨[.int .i64 0]⟩ 25 (0, 0)), (b4, .cells ⟨rgE 0 0⟩ 23 (0, 0))]
  | .bad => [(b5, .cells ⟨[.int .i64 2]⟩ 25 (0, 0)), (b4, .cells ⟨rgE 0 0⟩ 23 (0, 0))]
/-- what Mul answers -/
def muK (a b c d : Int) : Bool := (prods a b c d).all fitB
def muB (a b c d : Int) : Bool := vB a b && vB c d && muK a b c d
def muL (a b c d : Int) : Int := if muB a b c d then min (min (min (a * c) (a * d)) (b * c)) (b * d) else 0
def muH (a b c d : Int) : Int := if muB a b c d then max (max (max (a * c) (a * d)) (b * c)) (b * d) else 0
def muE (a b c d : Int) : Int := if vB a b && vB c d then (if muK a b c d then 0 else 2) else 210
def muV (a b c d : Int) : Value := .tuple ⟨[.agg ⟨rgE (muL a b c d) (muH a b c d)⟩, .int .i64 (muE a b c d)]⟩
theorem mu_bad {a b c d : Int} (h : (vB a b && vB c d) = false) : muV a b c d = .tuple ⟨[.agg ⟨rgE 0 0⟩, .int .i64 210]⟩ := by unfold muV muL muH muE muB; rw [h]; rfl
theorem mu_no {a b c d : Int} (h : (vB a b && vB c d) = true) (hk : muK a b c d = false) : muV a b c d = .tuple ⟨[.agg ⟨rgE 0 0⟩, .int .i64 2]⟩ := by unfold muV muL muH muE muB; rw [h, hk]; rfl
theorem mu_yes {a b c d : Int} (h : (vB a b && vB c d) = true) (hk : muK a b c d = true) : muV a b c d = .tuple ⟨[.agg ⟨rgE (min (min (min (a * c) (a * d)) (b * c)) (b * d)) (max (max (max (a * c) (a * d)) (b * c)) (b * d))⟩, .int .i64 0]⟩ := by unfold muV muL muH muE muB; rw [h, hk]; rfl
theorem muK_iff {a b c d : Int} : muK a b c d = true ↔ (a * c).natAbs ≤ 1099511627776 ∧ (a * d).natAbs ≤ 1099511627776 ∧ (b * c).natAbs ≤ 1099511627776 ∧ (b * d).natAbs ≤ 1099511627776 := by
  simp [muK, prods, fitB]
theorem cut_get {l : List Int} {k : Nat} (ha : (l.take k).all fitB = true) (hk : k < (cutL l).length) : ∃ p, l[k]? = some p ∧ ((fitB p = true ∧ (cutL l)[k] = (p, true)) ∨ (fitB p = false ∧ (cutL l)[k] = (0, false))) := by
  have hlen : ∀ l : List Int, (cutL l).length ≤ l.length := fun l => by
    induction l with
    | nil => exact Nat.le_refl _
    | cons q l ih =>
      show (if fitB q then (q, true) :: cutL l else [(0, false)]).length ≤ _
      split <;> simp <;> omega
  have := hlen l
  obtain ⟨p, hp⟩ : ∃ p, l[k]? = some p := ⟨_, List.getElem?_eq_getElem (by omega)⟩
  refine ⟨p, hp, ?_⟩
  cases hf : fitB p with
  | true => exact .inl ⟨rfl, (List.getElem?_eq_some_iff.1 (cut_yes l k p ha hp hf)).2⟩
  | false => exact .inr ⟨rfl, (List.getElem?_eq_some_iff.1 (cut_no l k p ha hp hf).1).2⟩

theorem cut_end {l : List Int} {k : Nat} (ha : (l.take k).all fitB = true) (hk : k = (cutL l).length) (hl : k ≤ l.length) : l.all fitB = true ∧ k = l.length := by
  by_cases h : k < l.length
  · obtain ⟨p, hp⟩ : ∃ p, l[k]? = some p := ⟨_, List.getElem?_eq_getElem h⟩
    cases hf : fitB p with
    | true => have := (List.getElem?_eq_some_iff.1 (cut_yes l k p ha hp hf)).1; omega
    | false => have := (List.getElem?_eq_some_iff.1 (cut_no l k p ha hp hf).1).1; omega
  · have hkl : k = l.length := by omega
    subst hkl
    rw [List.take_length] at ha
    exact ⟨ha, rfl⟩

theorem Mul_calls (a b c d : Int) (w : World) : Calls Try.prog 17 ⟨[.agg ⟨rgE a b⟩, .agg ⟨rgE c d⟩]⟩ w fun e w' => e = .returned (muV a b c d) ∧ Below w.heap.size w w' := by
  refine fun_enter Try.func17 rfl Try.ntmps17 rfl rfl (satW_nil w) ?_
  repeat (first | refine l_val rfl rfl (by first | exact v_load rfl (by repeat (first | exact List.Mem.head _ | apply List.Mem.tail)) rfl (by rfl) ) ?_ | refine l_nil ?_ | refine c_region ?_ | refine c_seq ?_ | refine x_then ?_ | refine r_box rfl rfl rfl rfl (fun _ => ?_) | refine r_alloc rfl rfl rfl (by first | exact aggL ) (fun _ => ?_) | refine r_buildSlice rfl rfl rfl rfl rfl rfl (by rfl) (fun _ => ?_) )
  rename_i bv
  refine r_call rfl rfl rfl (fun W hW => valid2_calls a b c d hW (y := bv) (by repeat (first | exact List.Mem.head _ | apply List.Mem.tail))) ?_
  cases h : (vB a b && vB c d) with
  | true =>
    obtain ⟨h1, h2⟩ := both h
    repeat (first | refine l_val rfl rfl (by first | exact pureEval_ok rfl | exact v_load rfl (by repeat (first | exact List.Mem.head _ | apply List.Mem.tail)) rfl (by rfl) ) ?_ | refine l_nil ?_ | refine c_region ?_ | refine c_seq ?_ | refine x_then ?_ | refine r_alloc rfl rfl rfl (by first | exact aggL ) (fun _ => ?_) | refine c_false rfl ?_ | refine c_skip ?_ )
    rename_i b2 b3 b4 b5 b6
    refine r_call2 (ι := Nat × Nat) (bk := fun p => p.1) (bk2 := fun p => p.2) (v := fun p => .func (.func 52) ⟨[]⟩ ⟨[.pointer (some ⟨p.1, 0, none⟩), .pointer (some ⟨p.2, 0, none⟩)]⟩) (o := fun _ => .cells ⟨rgE a b⟩ 23 (0, 0)) (o2 := fun _ => .cells ⟨rgE c d⟩ 23 (0, 0)) rfl rfl rfl (fun W hW => (products_calls a b c d W).mono fun e W' ⟨y, z, q⟩ => ⟨(y, z), q⟩) (fun p => ?_)
    obtain ⟨y, z⟩ := p
    repeat (first | refine l_nil ?_ | refine x_then ?_ | refine c_block ?_ )
    refine c_range prE (prL a b c d) (Rd w y z) [(z, .cells ⟨rgE c d⟩ 23 (0, 0)), (y, .cells ⟨rgE a b⟩ 23 (0, 0))] (ι := MS) MS.at (MS.ok (prods a b c d)) (MS.mem (prods a b c d) b4 b5 b6)
      (fun c' o => c' = .ret ∧ o = .bad ∧ muK a b c d = false) .none rfl (fun W W1 hW hs => it_of h1 h2 hW (by repeat (first | exact List.Mem.head _ | apply List.Mem.tail)) (by repeat (first | exact List.Mem.head _ | apply List.Mem.tail)) hs) (fun b hb => hb.imp id fun e => by rcases e with e | e <;> simp [e]) (fun _ _ => rfl) (by decide) rfl trivial (by repeat (first | exact MSub.nil | refine MSub.keep (by first | rfl | assumption) ?_ | refine MSub.drop ?_ | exact MSub.refl _))
      (env' := [(4, .pointer (some ⟨b4, 0, none⟩)), (5, .pointer (some ⟨b5, 0, none⟩)), (6, .pointer (some ⟨b6, 0, none⟩))]) (by repeat (first | exact EnvSub.nil | refine EnvSub.cons rfl (by first | rfl | (congr 1; done) | (exact congrArg (Value.int _) (by omega)) | (simp; done)) ?_)) ?_ ?_ ?_
    · intro i hI hk m lp W1 hW1 hDl hol
      cases i with
      | bad => exact hI.elim
      | none =>
        have hk : 0 < (prL a b c d).length := hk
        obtain ⟨p, hp, hcase⟩ := cut_get (l := prods a b c d) (k := 0) rfl hk
        show RunC _ _ _ _ _ (zipE _ (prE (cutL (prods a b c d))[0]) _) _
        rcases hcase with ⟨hf, he⟩ | ⟨hf, he⟩
        · rw [he]
          repeat (first | refine l_val rfl rfl (by first | exact pureEval_ok rfl ) ?_ | refine l_nil ?_ | refine c_region ?_ | refine c_seq ?_ | refine x_then ?_ )
          simp only [MS.mem] at hW1 hol ⊢
          refine x_body hW1 hDl hol (fun n2 W2 r hW2 hr2 ho => ?_)
          repeat (first | refine l_val rfl rfl (by first | exact pureEval_ok rfl | exact v_load rfl (by repeat (first | exact List.Mem.head _ | apply List.Mem.tail)) rfl (by rfl) ) ?_ | refine l_nil ?_ | refine c_region ?_ | refine c_seq ?_ | refine x_then ?_ | refine r_buildSlice rfl rfl rfl rfl rfl rfl (by rfl) (fun _ => ?_) | refine c_false rfl ?_ | refine c_block ?_ | refine c_skip ?_ )
          refine r_append_nil (m := 1) (ys := [.int .i64 p]) rfl rfl rfl rfl rfl rfl (news_own (by repeat (first | exact List.Mem.head _ | apply List.Mem.tail))) rfl rfl (by decide) (by decide) (by decide) (fun b7 cap7 rest7 hg7 => ?_)
          repeat (first | refine l_nil ?_ | refine r_store rfl rfl rfl rfl rfl rfl rfl (by repeat (first | exact Upd.head | apply Upd.tail)) (by rfl) ?_ | refine x_block ?_ )
          have ht : (prods a b c d).take (0 + 1) = [p] := by rw [List.take_add_one, hp]; rfl
          refine x_next (.some 1 b7 cap7 rest7) rfl ⟨by decide, by simp [prods], by rw [ht]; simp [hf], by rw [ht]; exact hg7⟩ ?_
          simp only [MS.mem, ht]
          exact (by repeat (first | exact MSub.nil | refine MSub.keep (by first | rfl | assumption) ?_ | refine MSub.drop ?_ | exact MSub.refl _))
        · rw [he]
          repeat (first | refine l_val rfl rfl (by first | exact pureEval_ok rfl ) ?_ | refine l_nil ?_ | refine c_region ?_ | refine c_seq ?_ | refine x_then ?_ )
          simp only [MS.mem] at hW1 hol ⊢
          refine x_body hW1 hDl hol (fun n2 W2 r hW2 hr2 ho => ?_)
          repeat (first | refine l_val rfl rfl (by first | exact pureEval_ok rfl | exact v_load rfl (by repeat (first | exact List.Mem.head _ | apply List.Mem.tail)) rfl (by rfl) ) ?_ | refine l_nil ?_ | refine c_region ?_ | refine c_seq ?_ | refine x_then ?_ | refine r_store rfl rfl rfl rfl rfl rfl rfl (by repeat (first | exact Upd.head | apply Upd.tail)) (by rfl) ?_ | refine c_true rfl ?_ | refine c_block ?_ | refine c_ret ?_ | refine x_then_ret ?_ | refine x_block_ret ?_ )
          refine x_leave_ret .bad ⟨rfl, rfl, ?_⟩ ?_
          · unfold muK; rw [List.all_eq_false]; exact ⟨p, List.mem_of_getElem? hp, by rw [hf]; decide⟩
          simp only [MS.mem]
          exact (by repeat (first | exact MSub.nil | refine MSub.keep (by first | rfl | assumption) ?_ | refine MSub.drop ?_ | exact MSub.refl _))
      | some k y' cap rest =>
        have hk : k < (prL a b c d).length := hk
        obtain ⟨i1, i2, i3, i4⟩ := hI
        obtain ⟨p, hp, hcase⟩ := cut_get (l := prods a b c d) (k := k) i3 hk
        have hk4 : k < 4 := by
          have := (List.getElem?_eq_some_iff.1 hp).1
          simpa [prods] using this
        show RunC _ _ _ _ _ (zipE _ (prE (cutL (prods a b c d))[k]) _) _
        rcases hcase with ⟨hf, he⟩ | ⟨hf, he⟩
        · rw [he]
          repeat (first | refine l_val rfl rfl (by first | exact pureEval_ok rfl ) ?_ | refine l_nil ?_ | refine c_region ?_ | refine c_seq ?_ | refine x_then ?_ )
          simp only [MS.mem] at hW1 hol ⊢
          refine x_body hW1 hDl hol (fun n2 W2 r hW2 hr2 ho => ?_)
          repeat (first | refine l_val rfl rfl (by first | exact pureEval_ok rfl | exact v_load rfl (by repeat (first | exact List.Mem.head _ | apply List.Mem.tail)) rfl (by rfl) ) ?_ | refine l_nil ?_ | refine c_region ?_ | refine c_seq ?_ | refine x_then ?_ | refine r_buildSlice rfl rfl rfl rfl rfl rfl (by rfl) (fun _ => ?_) | refine c_false rfl ?_ | refine c_block ?_ | refine c_skip ?_ )
          refine r_append (m := 1) (ys := [.int .i64 p]) rfl rfl rfl rfl rfl rfl (news_own (by repeat (first | exact List.Mem.head _ | apply List.Mem.tail))) (by repeat (first | exact Rem.head | apply Rem.tail)) i4 rfl rfl (by decide) (by omega) (by unfold maxLen; omega) (fun b7 cap7 rest7 hg7 => ?_)
          repeat (first | refine l_nil ?_ | refine r_store rfl rfl rfl rfl rfl rfl rfl (by repeat (first | exact Upd.head | apply Upd.tail)) (by rfl) ?_ | refine x_block ?_ )
          have ht : (prods a b c d).take (k + 1) = (prods a b c d).take k ++ [p] := by rw [List.take_add_one, hp]; rfl
          have hi : ints ((prods a b c d).take k ++ [p]) = ints ((prods a b c d).take k) ++ [.int .i64 p] := by simp [ints]
          refine x_next (.some (k + 1) b7 cap7 rest7) rfl ⟨Nat.succ_pos k, by simp [prods]; omega, by rw [ht, List.all_append, i3]; simp [hf], by rw [ht, hi]; exact hg7⟩ ?_
          simp only [MS.mem, ht, hi]
          exact (by repeat (first | exact MSub.nil | refine MSub.keep (by first | rfl | assumption) ?_ | refine MSub.drop ?_ | exact MSub.refl _))
        · rw [he]
          repeat (first | refine l_val rfl rfl (by first | exact pureEval_ok rfl ) ?_ | refine l_nil ?_ | refine c_region ?_ | refine c_seq ?_ | refine x_then ?_ )
          simp only [MS.mem] at hW1 hol ⊢
          refine x_body hW1 hDl hol (fun n2 W2 r hW2 hr2 ho => ?_)
          repeat (first | refine l_val rfl rfl (by first | exact pureEval_ok rfl | exact v_load rfl (by repeat (first | exact List.Mem.head _ | apply List.Mem.tail)) rfl (by rfl) ) ?_ | refine l_nil ?_ | refine c_region ?_ | refine c_seq ?_ | refine x_then ?_ | refine r_store rfl rfl rfl rfl rfl rfl rfl (by repeat (first | exact Upd.head | apply Upd.tail)) (by rfl) ?_ | refine c_true rfl ?_ | refine c_block ?_ | refine c_ret ?_ | refine x_then_ret ?_ | refine x_block_ret ?_ )
          refine x_leave_ret .bad ⟨rfl, rfl, ?_⟩ ?_
          · unfold muK; rw [List.all_eq_false]; exact ⟨p, List.mem_of_getElem? hp, by rw [hf]; decide⟩
          simp only [MS.mem]
          exact (by repeat (first | exact MSub.nil | refine MSub.keep (by first | rfl | assumption) ?_ | refine MSub.drop ?_ | exact MSub.refl _))
    · intro B i hk hI
      cases i with
      | bad => exact hI.elim
      | none =>
        exfalso
        have : 0 = (prL a b c d).length := hk
        have h5 : 0 < (cutL (a * c :: [a * d, b * c, b * d])).length := by
          show 0 < (if fitB (a * c) then (a * c, true) :: cutL _ else [(0, false)]).length
          split <;> simp
        rw [this] at h5
        exact absurd h5 (Nat.lt_irrefl _)
      | some k y' cap rest =>
        obtain ⟨i1, i2, i3, i4⟩ := hI
        obtain ⟨ha, hk4⟩ := cut_end i3 hk i2
        have hK : muK a b c d = true := ha
        subst hk4
        obtain ⟨n1, n2, n3, n4⟩ := muK_iff.1 hK
        have et : (prods a b c d).take (prods a b c d).length = prods a b c d := List.take_length
        rw [mu_yes h hK]
        simp only [MS.mem, et]
        show RunX _ _ _ _ _ (_ :: (_ ++ (y', Obj.cells ⟨.int .i64 (a * c) :: (ints [a * d, b * c, b * d] ++ rest)⟩ 3 (0, 0)) :: (b6, Obj.cells ⟨[.slice (some ⟨y', 0, none⟩) 4 cap]⟩ 55 (0, 0)) :: _))
        repeat (first | refine c_seq ?_ | refine x_then ?_ | refine x_block ?_ | refine c_cut rfl (by decide +kernel) ?_ | refine h_val rfl rfl (by first | exact v_load rfl (by repeat (first | exact List.Mem.head _ | apply List.Mem.tail)) rfl (by rfl) | exact v_index rfl rfl rfl rfl (by omega) (by omega) (by with_reducible first | exact idx5 _  ) ) ?_ )
        have hcap : cap ≠ 1 := by have := i4.le; simp [prods] at this; omega
        refine h_val rfl rfl (v_sliceL (l := 1) rfl rfl rfl rfl rfl (by decide) hcap) ?_
        have e1 : mnL (a * c) [a * d, b * c, b * d] = min (min (min (a * c) (a * d)) (b * c)) (b * d) := rfl
        have e2 : mxL (a * c) [a * d, b * c, b * d] = max (max (max (a * c) (a * d)) (b * c)) (b * d) := rfl
        have hv : vB (min (min (min (a * c) (a * d)) (b * c)) (b * d)) (max (max (max (a * c) (a * d)) (b * c)) (b * d)) = true := vB_iff.2 (by omega)
        refine h_call rfl rfl rfl (fun W hW => hull_calls (a * c) (some ⟨y', 0 + 1 * 1, none⟩) (cap - 1) [a * d, b * c, b * d] W (by simp) (hW.rowsAt (b := y') (pre := [.int .i64 (a * c)]) (rest := rest) (by repeat (first | exact List.Mem.head _ | apply List.Mem.tail)) rfl rfl (in_len _))) ?_
        rw [e1, e2, rs_yes hv]
        repeat (first | refine x_then ?_ | refine c_ret ?_ | refine h_val rfl rfl (by first | exact pureEval_ok rfl ) ?_ | refine h_do12 rfl (by decide +kernel) (by decide +kernel) (by decide +kernel) rfl rfl rfl rfl (by first | exact d_store rfl rfl rfl rfl rfl rfl (by repeat (first | exact Upd.head | apply Upd.tail)) (by rfl) ) (by first | exact d_store rfl rfl rfl rfl rfl rfl (by repeat (first | exact Upd.head | apply Upd.tail)) (by rfl) ) ?_ )
        exact x_rets (Ds := [B]) rfl rfl (by repeat (first | exact Split.nil | exact Split.all | apply Split.mark | apply Split.keep)) rfl (by repeat (first | exact Res.nil | (apply Res.tmp; rfl) | (apply Res.cell; rfl; exact (by repeat (first | exact List.Mem.head _ | apply List.Mem.tail)); rfl; rfl))) rfl (fun W hW => ⟨rfl, hW.below⟩)
    · rintro B _ _ ⟨rfl, rfl, hm⟩
      rw [mu_no h hm]
      unfold MS.mem
      repeat (first | refine c_ret ?_ | refine x_then_ret ?_ | refine x_block_ret ?_ )
      exact x_rets (Ds := [B]) rfl rfl (by repeat (first | exact Split.nil | exact Split.all | apply Split.mark | apply Split.keep)) rfl (by repeat (first | exact Res.nil | (apply Res.tmp; rfl) | (apply Res.cell; rfl; exact (by repeat (first | exact List.Mem.head _ | apply List.Mem.tail)); rfl; rfl))) rfl (fun W hW => ⟨rfl, hW.below⟩)
  | false =>
    rw [mu_bad h]
    repeat (first | refine l_val rfl rfl (by first | exact pureEval_ok rfl | exact v_load rfl (by repeat (first | exact List.Mem.head _ | apply List.Mem.tail)) rfl (by rfl) ) ?_ | refine l_nil ?_ | refine c_region ?_ | refine c_seq ?_ | refine x_then ?_ | refine r_store rfl rfl rfl rfl rfl rfl rfl (by repeat (first | exact Upd.head | apply Upd.tail)) (by rfl) ?_ | refine c_true rfl ?_ | refine c_ret ?_ | refine x_then_ret ?_ )
    exact x_ret rfl rfl (by repeat (first | exact Res.nil | (apply Res.tmp; rfl) | (apply Res.cell; rfl; exact (by repeat (first | exact List.Mem.head _ | apply List.Mem.tail)); rfl; rfl))) rfl (fun W hW => ⟨rfl, hW.below⟩)
end R21
end Go.Proofs

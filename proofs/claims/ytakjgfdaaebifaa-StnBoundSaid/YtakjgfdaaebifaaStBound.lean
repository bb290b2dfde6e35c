/- The specification's Bound, walked. -/
import Derived.Test.YtakjgfdaaebifaaStSoon
set_option linter.unusedSectionVars false
set_option linter.unusedVariables false
set_option linter.unusedSimpArgs false
namespace Go.Proofs
open Go.RowKit Go.Kin Go.Kin.St
namespace R22

/-- the points are there -/
def ptsIn (n a b : Int) : Prop := 0 ≤ a ∧ a < n ∧ 0 ≤ b ∧ b < n
instance (n a b : Int) : Decidable (ptsIn n a b) := by unfold ptsIn; exact inferInstance
/-- The distances. -/
def bndp (n : Int) (l : List Lk) (a : Int) : (Nat → Int) × (Nat → Bool) := reached (edges l) n.toNat (origin a.toNat)
/-- What Bound answers. -/
noncomputable def bnd (n : Int) (l : List Lk) (a b : Int) : Int × Bool × Int :=
  if chk n l ≠ 0 then (0, false, chk n l) else if ptsIn n a b then
    match ear n l with
    | none => (0, false, 220)
    | some _ => ((bndp n l a).1 b.toNat, (bndp n l a).2 b.toNat, 0)
  else (0, false, 1)
theorem bnd_chk {n : Int} {l : List Lk} {a b : Int} (h : chk n l ≠ 0) : bnd n l a b = (0, false, chk n l) := if_pos h
theorem bnd_arg {n : Int} {l : List Lk} {a b : Int} (h : chk n l = 0) (h2 : ¬ ptsIn n a b) : bnd n l a b = (0, false, 1) := by
  unfold bnd; rw [if_neg (by simp [h]), if_neg h2]
theorem bnd_none {n : Int} {l : List Lk} {a b : Int} (h : chk n l = 0) (h2 : ptsIn n a b) (h3 : ear n l = none) : bnd n l a b = (0, false, 220) := by
  unfold bnd; rw [if_neg (by simp [h]), if_pos h2, h3]
theorem bnd_some {n : Int} {l : List Lk} {a b : Int} {L : Nat → Int} (h : chk n l = 0) (h2 : ptsIn n a b) (h3 : ear n l = some L) : bnd n l a b = ((bndp n l a).1 b.toNat, (bndp n l a).2 b.toNat, 0) := by
  unfold bnd; rw [if_neg (by simp [h]), if_pos h2, h3]

def bndV (p : Int × Bool × Int) : Value := .tuple ⟨[.int .i64 p.1, .bool p.2.1, .int .i64 p.2.2]⟩

theorem low_of {N : Nat} {l : List Lk} (hF : Fine N l) {a : Nat} (ha : a < N) (k : Nat) : Low N 1099511627776 (reached (edges l) k (origin a)) :=
  reached_low (by omega) (by simpa using hF.inE) (fun e he => (hF.weights e he).2) (origin_low ha (by omega)) k
theorem near_of {N : Nat} {l : List Lk} (hF : Fine N l) (hN : N ≤ 64) {a : Nat} (ha : a < N) (k : Nat) {x : Nat} (hx : x < N) (hm : (reached (edges l) k (origin a)).2 x = true) : (reached (edges l) k (origin a)).1 x ≤ 70368744177664 := by
  have := (low_of hF ha k).near (by omega) x hx hm
  omega

theorem mixes {N : Nat} {l : List Lk} (hF : Fine N l) (hN : N ≤ 64) {a : Nat} (ha : a < N) (k : Nat) : l.foldl soon1 (mix (reached (edges l) k (origin a))) = mix (reached (edges l) (k + 1) (origin a)) := by
  rw [← soon_fold, soons_mix (n := N) (W := 1099511627776) (by omega) (by simpa using hF.inE) (fun e he => (hF.weights e he).2) (by omega) (low_of hF ha k)]
  rfl

theorem mix_within {N : Nat} {l : List Lk} (hF : Fine N l) (hN : N ≤ 64) (hl : l.length ≤ 256) {a : Nat} (ha : a < N) (k : Nat) : Within (1125899906842624 + 562949953421312 * k) (mix (reached (edges l) k (origin a))) := by
  induction k with
  | zero =>
    intro x
    simp only [reached, mix, origin]
    by_cases hx : x = a
    · simp [hx]
    · simp [hx]
  | succ k ih =>
    rw [← mixes hF hN ha k]
    have := soon1_within hF ih l.length
    rw [List.take_length] at this
    exact this.mono (by omega)

theorem rBound_calls (n : Int) (a b : Int) (A : Option Addr) (cap : Nat) (l : List Lk) (w : World) (hl : l.length ≤ 1000) (hA : At w A 4 (l.map lkE)) :
    Calls Try.prog 21 ⟨[.agg ⟨netCells n A l.length cap⟩, .int .i64 a, .int .i64 b]⟩ w fun e w' => e = .returned (bndV (bnd n l a b)) ∧ Below w.heap.size w w' := by
  refine fun_enter Try.func21 rfl Try.ntmps21 rfl rfl (satW_nil w) ?_
  repeat (first | refine l_val rfl rfl (by first | exact pureEval_ok rfl | exact v_load rfl (by repeat (first | exact List.Mem.head _ | apply List.Mem.tail)) rfl (by rfl) ) ?_ | refine l_nil ?_ | refine c_region ?_ | refine c_seq ?_ | refine x_then ?_ | refine r_box rfl rfl rfl rfl (fun _ => ?_) )
  refine r_call rfl rfl rfl (fun W hW => rcheck_calls n A cap l W hl (hA.sat hW)) ?_
  repeat (first | refine l_val rfl rfl (by first | exact pureEval_ok rfl ) ?_ | refine l_nil ?_ | refine c_region ?_ | refine c_seq ?_ | refine x_then ?_ )
  rename_i b1
  by_cases h0 : chk n l = 0
  · obtain ⟨c1, c2, c3, hF⟩ := chk_fine h0
    obtain ⟨N, rfl⟩ : ∃ N : Nat, n = N := ⟨n.toNat, by omega⟩
    by_cases hp : ptsIn N a b
    · obtain ⟨p1, p2, p3, p4⟩ := hp
      have hp : ptsIn N a b := ⟨p1, p2, p3, p4⟩
      obtain ⟨i, rfl⟩ : ∃ i : Nat, a = i := ⟨a.toNat, by omega⟩
      obtain ⟨j, rfl⟩ : ∃ j : Nat, b = j := ⟨b.toNat, by omega⟩
      repeat (first | refine l_val rfl rfl (by first | exact pureEval_ok rfl | exact v_load rfl (by repeat (first | exact List.Mem.head _ | apply List.Mem.tail)) rfl (by rfl) ) ?_ | refine l_nil ?_ | refine c_region ?_ | refine c_seq ?_ | refine x_then ?_ | refine c_dec_f rfl (by first | omega | exact fun h => h rfl ) ?_ | refine c_skip ?_ | refine l_dec_f rfl rfl rfl rfl rfl (by first | omega | exact fun h => h rfl ) ?_ )
      cases he : ear N l with
      | none =>
        refine r_call rfl rfl rfl (fun W hW => earQ_none (rEar_calls N A cap l W hl (hA.sat hW)) he) ?_
        repeat (first | refine l_val rfl rfl (by first | exact pureEval_ok rfl ) ?_ | refine l_nil ?_ | refine c_region ?_ | refine c_seq ?_ | refine x_then ?_ | refine c_true rfl ?_ | refine c_ret ?_ | refine x_then_ret ?_ )
        refine x_ret rfl rfl (by repeat (first | exact Res.nil | (apply Res.tmp; rfl) | (apply Res.cell; rfl; exact (by repeat (first | exact List.Mem.head _ | apply List.Mem.tail)); rfl; rfl))) rfl (fun W hW => ⟨?_, hW.below⟩)
        rw [bnd_none h0 hp he]; rfl
      | some L =>
        refine r_call1 (ι := Nat) (bk := fun b => b) rfl rfl rfl (fun W hW => earQ_some (rEar_calls N A cap l W hl (hA.sat hW)) he) (fun b5 => ?_)
        repeat (first | refine l_val rfl rfl (by first | exact pureEval_ok rfl | exact v_load rfl (by repeat (first | exact List.Mem.head _ | apply List.Mem.tail)) rfl (by rfl) ) ?_ | refine l_nil ?_ | refine c_region ?_ | refine c_seq ?_ | refine x_then ?_ | refine r_make rfl rfl rfl rfl rfl rfl (by first | rfl ) (by omega) (by omega) rfl rfl (by first | exact flat_int ) (fun _ => ?_) | refine c_false rfl ?_ | refine c_block ?_ | refine c_skip ?_ )
        rename_i b6
        refine c_loop (ι := Nat) (fun k => k ≤ N) (fun k => [(1, .int .i64 i), (2, .int .i64 j), (3, .pointer (some ⟨b1, 0, none⟩)), (13, .slice (some ⟨b6, 0, none⟩) N N), (14, .int .i64 k)])
          (fun k => [(b6, .cells ⟨ivec N fun x => if x < k then 1125899906842624 else 0⟩ 3 (0, 0)), (b1, .cells ⟨netCells N A l.length cap⟩ 24 (0, 0))]) (fun k => N - k) 0 (by omega) (by repeat (first | exact EnvSub.nil | refine EnvSub.cons rfl (by first | rfl | (congr 1; done) | (exact congrArg (Value.int _) (by omega)) | (simp; done)) ?_)) (by repeat (first | exact MSub.nil | refine MSub.keep (by first | rfl | assumption) ?_ | refine MSub.drop ?_ | exact MSub.refl _)) ?_
        intro k hk
        by_cases hlt : k < N
        · repeat (first | refine l_val rfl rfl (by first | exact v_add rfl rfl (by omega) (by omega) | exact pureEval_ok rfl | exact v_index rfl rfl rfl rfl (by omega) (by omega) (by with_reducible first | exact idx1 _  ) ) ?_ | refine l_nil ?_ | refine c_region ?_ | refine c_seq ?_ | refine x_then ?_ | refine r_store_at rfl rfl rfl rfl rfl rfl (by repeat (first | exact Upd.head | apply Upd.tail)) (by first | (rw [ivec_length]; omega) ) (by first | exact ivec_set ) ?_ | refine c_dec_t rfl (by first | omega ) ?_ | refine c_block ?_ | refine c_skip ?_ | refine x_block ?_ )
          refine x_back (k + 1) hlt (by omega) (by repeat (first | exact EnvSub.nil | refine EnvSub.cons rfl (by first | rfl | (congr 1; done) | (exact congrArg (Value.int _) (by omega)) | (simp; done)) ?_)) ?_
          rw [show (fun x => if x < k + 1 then (1125899906842624 : Int) else 0) = iset (fun x => if x < k then (1125899906842624 : Int) else 0) k 1125899906842624 from by
            funext x
            simp only [iset]
            by_cases hxk : x = k
            · rw [if_pos hxk, if_pos (by omega)]
            · rw [if_neg hxk]
              by_cases h2 : x < k
              · rw [if_pos h2, if_pos (by omega)]
              · rw [if_neg h2, if_neg (by omega)]]
          exact (by repeat (first | exact MSub.nil | refine MSub.keep (by first | rfl | assumption) ?_ | refine MSub.drop ?_ | exact MSub.refl _))
        · have hkN : k = N := by omega
          subst hkN
          rw [show ivec k (fun x => if x < k then (1125899906842624 : Int) else 0) = ivec k (fun _ => 1125899906842624) from ivec_congr fun x hx => if_pos hx]
          repeat (first | refine l_val rfl rfl (by first | exact pureEval_ok rfl | exact v_index rfl rfl rfl rfl (by omega) (by omega) (by with_reducible first | exact idx1 _  ) ) ?_ | refine l_nil ?_ | refine c_region ?_ | refine c_seq ?_ | refine x_then ?_ | refine r_store_at rfl rfl rfl rfl rfl rfl (by repeat (first | exact Upd.head | apply Upd.tail)) (by first | (rw [ivec_length]; omega) ) (by first | exact ivec_set ) ?_ | refine c_dec_f rfl (by first | omega ) ?_ | refine c_block ?_ | refine c_exit ?_ | refine x_then_exit ?_ | refine x_block_same ?_ )
          have h00 : iset (fun _ => (1125899906842624 : Int)) i 0 = mix (reached (edges l) 0 (origin i)) := by
            funext x
            simp only [iset, reached, mix, origin, decide_eq_true_eq]
          refine c_loop (ι := Nat) (fun q => q ≤ k) (fun q => [(1, .int .i64 i), (2, .int .i64 j), (3, .pointer (some ⟨b1, 0, none⟩)), (13, .slice (some ⟨b6, 0, none⟩) k k), (15, .int .i64 q)])
            (fun q => [(b6, .cells ⟨ivec k (mix (reached (edges l) q (origin i)))⟩ 3 (0, 0)), (b1, .cells ⟨netCells k A l.length cap⟩ 24 (0, 0))]) (fun q => k - q) 0 (by omega) (by repeat (first | exact EnvSub.nil | refine EnvSub.cons rfl (by first | rfl | (congr 1; done) | (exact congrArg (Value.int _) (by omega)) | (simp; done)) ?_)) (by rw [← h00]; exact (by repeat (first | exact MSub.nil | refine MSub.keep (by first | rfl | assumption) ?_ | refine MSub.drop ?_ | exact MSub.refl _))) ?_
          intro q hq
          have hi : i < k := by omega
          have hj : j < k := by omega
          have hw := mix_within hF (by omega) c3 hi q
          by_cases hlt : q < k
          · repeat (first | refine l_val rfl rfl (by first | exact pureEval_ok rfl | exact v_load rfl (by repeat (first | exact List.Mem.head _ | apply List.Mem.tail)) rfl (by rfl) ) ?_ | refine l_nil ?_ | refine c_region ?_ | refine c_seq ?_ | refine x_then ?_ | refine c_dec_t rfl (by first | omega ) ?_ | refine c_block ?_ | refine c_skip ?_ )
            refine r_callu (ι := Unit) (v := fun _ => .slice (some ⟨b6, 0, none⟩) k k) (o' := fun _ => .cells ⟨ivec k (l.foldl soon1 (mix (reached (edges l) q (origin i))))⟩ 3 (0, 0)) rfl rfl rfl (by repeat (first | exact List.Mem.head _ | apply List.Mem.tail)) (fun _ => (by repeat (first | exact Upd.head | apply Upd.tail)))
              (fun W hW hb => sooner_calls k k A cap b6 l _ _ W hl (hA.sat hW) hF (Int.le_refl _) hw (by omega) hb (fun a ha hne => ?_)) (fun _ => ?_)
            · have hnb := (hW.own (b6, .cells ⟨ivec k (mix (reached (edges l) q (origin i)))⟩ 3 (0, 0)) (by repeat (first | exact List.Mem.head _ | apply List.Mem.tail))).1
              exact fun e => hnb (by show base w b6; rw [← e]; exact at_base hA a ha hne)
            · rw [mixes hF (by omega) hi q]
              repeat (first | refine l_val rfl rfl (by first | exact v_add rfl rfl (by omega) (by omega) | exact pureEval_ok rfl ) ?_ | refine l_nil ?_ | refine c_region ?_ | refine x_then ?_ | refine x_block ?_ )
              exact x_back (q + 1) hlt (by omega) (by repeat (first | exact EnvSub.nil | refine EnvSub.cons rfl (by first | rfl | (congr 1; done) | (exact congrArg (Value.int _) (by omega)) | (simp; done)) ?_)) (by repeat (first | exact MSub.nil | refine MSub.keep (by first | rfl | assumption) ?_ | refine MSub.drop ?_ | exact MSub.refl _))
          · have hqk : q = k := by omega
            subst hqk
            have hwj := hw j
            obtain ⟨p, hp2⟩ : ∃ p, reached (edges l) q (origin i) = p := ⟨_, rfl⟩
            have hbd : bndp q l i = p := hp2
            have hnr : p.2 j = true → p.1 j ≤ 70368744177664 := fun h => by rw [← hp2] at h ⊢; exact near_of hF (by omega) hi q hj h
            have hzr : p.2 j = false → p.1 j = 0 := fun h => by rw [← hp2] at h ⊢; exact reached_zero (fun x hx => rfl) q j h
            rw [hp2] at hwj ⊢
            cases hm : p.2 j with
            | true =>
              have hmj : mix p j = p.1 j := by unfold mix; rw [if_pos hm]
              have := hnr hm
              repeat (first | refine l_val rfl rfl (by first | exact pureEval_ok rfl | exact v_load rfl (by repeat (first | exact List.Mem.head _ | apply List.Mem.tail)) rfl (by rfl) | exact v_index rfl rfl rfl rfl (by omega) (by omega) (by with_reducible first | exact idx1 _  ) | exact v_load_at rfl (by repeat (first | exact List.Mem.head _ | apply List.Mem.tail)) rfl rfl (by first | exact ivec_get (by omega) ) ) ?_ | refine l_nil ?_ | refine c_region ?_ | refine c_seq ?_ | refine x_then ?_ | refine c_dec_f rfl (by first | omega ) ?_ | refine c_skip ?_ | refine c_ret ?_ | refine c_exit ?_ | refine x_then_exit ?_ | refine x_block_same ?_ )
              refine x_ret rfl rfl (by repeat (first | exact Res.nil | (apply Res.tmp; rfl) | (apply Res.cell; rfl; exact (by repeat (first | exact List.Mem.head _ | apply List.Mem.tail)); rfl; rfl))) rfl (fun W hW => ⟨?_, hW.below⟩)
              rw [bnd_some h0 hp he, hbd]
              simp only [Int.toNat_natCast, hm, hmj]; rfl
            | false =>
              have hmj : mix p j = 1125899906842624 := by unfold mix; rw [if_neg (by simp [hm])]
              repeat (first | refine l_val rfl rfl (by first | exact pureEval_ok rfl | exact v_load rfl (by repeat (first | exact List.Mem.head _ | apply List.Mem.tail)) rfl (by rfl) | exact v_index rfl rfl rfl rfl (by omega) (by omega) (by with_reducible first | exact idx1 _  ) | exact v_load_at rfl (by repeat (first | exact List.Mem.head _ | apply List.Mem.tail)) rfl rfl (by first | exact ivec_get (by omega) ) ) ?_ | refine l_nil ?_ | refine c_region ?_ | refine c_seq ?_ | refine x_then ?_ | refine c_dec_t rfl (by first | omega ) ?_ | refine c_dec_f rfl (by first | omega ) ?_ | refine c_ret ?_ | refine c_exit ?_ | refine x_then_ret ?_ | refine x_then_exit ?_ | refine x_block_same ?_ )
              refine x_ret rfl rfl (by repeat (first | exact Res.nil | (apply Res.tmp; rfl) | (apply Res.cell; rfl; exact (by repeat (first | exact List.Mem.head _ | apply List.Mem.tail)); rfl; rfl))) rfl (fun W hW => ⟨?_, hW.below⟩)
              rw [bnd_some h0 hp he, hbd]
              simp only [Int.toNat_natCast, hm, hzr hm]; rfl
    · have hp2 := hp
      unfold ptsIn at hp2
      repeat' (first | refine l_val rfl rfl (by first | exact pureEval_ok rfl | exact v_load rfl (by repeat (first | exact List.Mem.head _ | apply List.Mem.tail)) rfl (by rfl) ) ?_ | refine l_nil ?_ | refine c_region ?_ | refine c_seq ?_ | refine x_then ?_ | refine l_skip rfl rfl ?_ | refine c_true rfl ?_ | refine c_dec_t rfl (by first | omega ) ?_ | refine c_dec_f rfl (by first | omega ) ?_ | refine c_skip ?_ | refine c_ret ?_ | refine x_then_ret ?_ | refine l_dec rfl rfl rfl rfl rfl (fun _ => ?_) (fun _ => ?_) )
      all_goals first
        | (exfalso; omega)
        | (refine x_ret rfl rfl (by repeat (first | exact Res.nil | (apply Res.tmp; rfl) | (apply Res.cell; rfl; exact (by repeat (first | exact List.Mem.head _ | apply List.Mem.tail)); rfl; rfl))) rfl (fun W hW => ⟨?_, hW.below⟩)
           rw [bnd_arg h0 hp]; rfl)
  · repeat (first | refine l_val rfl rfl (by first | exact pureEval_ok rfl ) ?_ | refine l_nil ?_ | refine c_region ?_ | refine c_seq ?_ | refine x_then ?_ | refine c_dec_t rfl (by first | omega ) ?_ | refine c_ret ?_ | refine x_then_ret ?_ )
    refine x_ret rfl rfl (by repeat (first | exact Res.nil | (apply Res.tmp; rfl) | (apply Res.cell; rfl; exact (by repeat (first | exact List.Mem.head _ | apply List.Mem.tail)); rfl; rfl))) rfl (fun W hW => ⟨?_, hW.below⟩)
    rw [bnd_chk h0]; rfl
end R22
end Go.Proofs

/- StnRenamed, walked. -/
import Derived.Test.YtakjgfdaaebifaaStL5
import Derived.Test.YtakjgfdaaebifaaEng13
set_option linter.unusedSectionVars false
set_option linter.unusedVariables false
set_option linter.unusedSimpArgs false
namespace Go.Proofs
open Go.RowKit Go.Kin Go.Kin.St
namespace R22

/-! ## Other numbers -/
/-- `σ` numbers the points otherwise, `τ` is its inverse -/
def Pm (N : Nat) (σ τ : Nat → Nat) : Prop := ∀ x, x < N → σ x < N ∧ τ x < N ∧ τ (σ x) = x ∧ σ (τ x) = x
theorem pm_id (N : Nat) : Pm N (fun x => x) (fun x => x) := fun x h => ⟨h, h, rfl, rfl⟩
def tr (p q x : Nat) : Nat := if x = q then p else if x = p then q else x
def swS (σ : Nat → Nat) (p q : Nat) : Nat → Nat := fun x => σ (tr p q x)
theorem tr_lt {N p q x : Nat} (hp : p < N) (hq : q < N) (hx : x < N) : tr p q x < N := by
  unfold tr; split
  · exact hp
  · split
    · exact hq
    · exact hx
theorem tr_tr (p q x : Nat) : tr p q (tr p q x) = x := by
  unfold tr
  by_cases h1 : x = q
  · subst h1
    by_cases h2 : p = x
    · simp [h2]
    · simp [h2]
  · by_cases h2 : x = p
    · subst h2; simp [h1]
    · simp [h1, h2]
theorem pm_swap {N : Nat} {σ τ : Nat → Nat} (h : Pm N σ τ) {p q : Nat} (hp : p < N) (hq : q < N) : Pm N (swS σ p q) (fun y => tr p q (τ y)) := fun x hx => by
  obtain ⟨h1, h2, h3, h4⟩ := h x hx
  have h5 := tr_lt hp hq hx
  refine ⟨(h _ h5).1, tr_lt hp hq h2, ?_, ?_⟩
  · simp only [swS]; rw [(h _ h5).2.2.1, tr_tr]
  · simp only [swS]; rw [tr_tr, h4]
theorem sw_cells (σ : Nat → Nat) (p q : Nat) : (fun x => ((swS σ p q x : Nat) : Int)) = iset (iset (fun x => (σ x : Int)) p (σ q)) q (σ p) := by
  funext x
  unfold iset swS tr
  by_cases h1 : x = q
  · simp [h1]
  · by_cases h2 : x = p
    · by_cases h3 : p = q <;> simp [h2, h3]
    · simp [h1, h2]
def ren (σ : Nat → Nat) (x : Lk) : Lk := ⟨σ x.fr.toNat, σ x.to.toNat, x.lo, x.hi⟩
theorem ren_sol {N : Nat} {σ : Nat → Nat} {l : List Lk} {t : Nat → Int} : Sol (edges ((l.reverse).map (ren σ))) t ↔ Sol (edges l) (fun x => t (σ x)) := by
  rw [sol_links, sol_links]
  constructor
  · intro h x hx
    have := h (ren σ x) (List.mem_map.2 ⟨x, List.mem_reverse.2 hx, rfl⟩)
    simpa [ren] using this
  · intro h y hy
    obtain ⟨x, hx, rfl⟩ := List.mem_map.1 hy
    have := h x (List.mem_reverse.1 hx)
    simpa [ren] using this
theorem ren_chk {N : Nat} {σ τ : Nat → Nat} {l : List Lk} (hP : Pm N σ τ) (hc : chk N l = 0) : chk N ((l.reverse).map (ren σ)) = 0 := by
  obtain ⟨c1, c2, c3, hF⟩ := chk_fine hc
  refine chk_0 (by omega) (by simp; omega) fun y hy => ?_
  obtain ⟨x, hx, rfl⟩ := List.mem_map.1 hy
  have hf := hF x (List.mem_reverse.1 hx)
  unfold Lk.Fine at hf ⊢
  have h1 := hP x.fr.toNat (by omega)
  have h2 := hP x.to.toNat (by omega)
  simp only [ren]
  refine ⟨by omega, by omega, by omega, by omega, ?_, by omega, by omega, by omega⟩
  intro e
  have e2 : σ x.fr.toNat = σ x.to.toNat := by omega
  have h3 := h1.2.2.1
  rw [e2, h2.2.2.1] at h3
  omega
theorem ren_ear {N : Nat} {σ τ : Nat → Nat} {l : List Lk} {L : Nat → Int} (hP : Pm N σ τ) (he : ear N l = some L) : ∃ U, ear N ((l.reverse).map (ren σ)) = some U ∧ ∀ x, x < N → U (σ x) = L x := by
  obtain ⟨hc, hL⟩ := ear_least he
  obtain ⟨c1, c2, c3, hF⟩ := chk_fine hc
  have hl : Least (N : Int).toNat (edges ((l.reverse).map (ren σ))) (fun _ => 0) (fun y => L (τ y)) := by
    refine ⟨(ren_sol (N := N)).2 ?_, fun y hy => hL.pos _ (by have := hP y (by omega); omega), fun s hs hp y hy => ?_⟩
    · have hs := (sol_links _ _).1 hL.sol
      refine (sol_links _ _).2 fun x hx => ?_
      have hf := hF x hx
      unfold Lk.Fine at hf
      have h1 := hP x.fr.toNat (by omega)
      have h2 := hP x.to.toNat (by omega)
      simp only [h1.2.2.1, h2.2.2.1]
      exact hs x hx
    · have h1 := hP y (by omega)
      have h2 := hL.le _ ((ren_sol (N := N)).1 hs) (fun x hx => hp _ (by have := hP x (by omega); omega)) (τ y) (by omega)
      simp only [h1.2.2.2] at h2
      exact h2
  obtain ⟨U, h1, h2⟩ := ear_of (ren_chk hP hc) hl
  refine ⟨U, h1, fun x hx => ?_⟩
  have h3 := hP x hx
  rw [← h2 _ (by omega)]
  simp only [h3.2.2.1]
theorem ren_none {N : Nat} {σ : Nat → Nat} {l : List Lk} (he : ear N l = none) (hc : chk N l = 0) : ear N ((l.reverse).map (ren σ)) = none :=
  ear_no fun t ht => ear_none he hc _ ((ren_sol (N := N)).1 ht)

def u8E (v : Int) : List Value := [.int .u8 v]
/-- the links so far -/
def rnSl (r : List Lk) (b cap : Nat) : Value := match r with
  | [] => .slice none 0 0
  | _ :: r => .slice (some ⟨b, 0, none⟩) (r.length + 1) cap
def rnM (r : List Lk) (b : Nat) (rest : List Value) (m : List (Nat × Obj)) : List (Nat × Obj) := match r with
  | [] => m
  | x :: r => (b, .cells ⟨((x :: r).map lkE).flatten ++ rest⟩ 47 (0, 0)) :: m
theorem ren_step {σ : Nat → Nat} {l : List Lk} {i : Nat} {x : Lk} (h : l[i]? = some x) : ((l.drop i).reverse).map (ren σ) = ((l.drop (i + 1)).reverse).map (ren σ) ++ [ren σ x] := by
  obtain ⟨hi, hx⟩ := List.getElem?_eq_some_iff.1 h
  rw [List.drop_eq_getElem_cons hi, hx]
  simp

set_option maxRecDepth 100000 in
set_option maxHeartbeats 4000000 in
theorem stnRenamed_calls (n : Int) (A T : Option Addr) (cap capT : Nat) (l : List Lk) (sw : List Int) (w : World) (hA : At w A 4 (l.map lkE)) (hT : At w T 1 (sw.map u8E)) (hsw : ∀ v ∈ sw, 0 ≤ v ∧ v ≤ 255) :
    Calls Try.prog 9 ⟨[.agg ⟨netCells n A l.length cap⟩, .slice T sw.length capT]⟩ w fun e w' => e = .returned (.bool true) ∧ Below w.heap.size w w' := by
  refine fun_enter Try.func9 rfl Try.ntmps9 rfl rfl (satW_nil w) ?_
  repeat (first | refine l_val rfl rfl (by first | exact pureEval_ok rfl ) ?_ | refine l_nil ?_ | refine c_region ?_ | refine c_seq ?_ | refine x_then ?_ | refine r_box rfl rfl rfl rfl (fun _ => ?_) )
  rename_i y1
  refine r_call rfl rfl rfl (fun W hW => sane_calls W) ?_
  by_cases h300 : (l.length : Int) ≤ 300
  · by_cases h100 : (sw.length : Int) ≤ 100
    · repeat (first | refine l_val rfl rfl (by first | exact pureEval_ok rfl | exact v_load rfl (by repeat (first | exact List.Mem.head _ | apply List.Mem.tail)) rfl (by rfl) ) ?_ | refine l_nil ?_ | refine c_region ?_ | refine c_seq ?_ | refine x_then ?_ | refine c_false rfl ?_ | refine c_skip ?_ | refine l_dec_f rfl rfl rfl rfl rfl (by first | omega | exact fun h => h rfl ) ?_ )
      refine r_call rfl rfl rfl (fun W hW => check_calls n A cap l W (by omega) (hA.sat hW)) ?_
      by_cases hc : chk n l = 0
      · obtain ⟨c1, c2, c3, hF⟩ := chk_fine hc
        rw [hc]
        obtain ⟨N, rfl⟩ : ∃ N : Nat, n = N := ⟨n.toNat, by omega⟩
        repeat (first | refine l_val rfl rfl (by first | exact pureEval_ok rfl | exact v_load rfl (by repeat (first | exact List.Mem.head _ | apply List.Mem.tail)) rfl (by rfl) ) ?_ | refine l_nil ?_ | refine c_region ?_ | refine c_seq ?_ | refine x_then ?_ | refine r_make rfl rfl rfl rfl rfl rfl (by first | rfl ) (by omega) (by omega) rfl rfl (by first | exact flat_int ) (fun _ => ?_) | refine c_false rfl ?_ | refine c_block ?_ | refine c_skip ?_ )
        rename_i y2
        refine c_loop (ι := Nat) (fun k => k ≤ N) (fun k => [(1, .slice T sw.length capT), (2, .pointer (some ⟨y1, 0, none⟩)), (5, .slice (some ⟨y2, 0, none⟩) N N), (41, .int .i64 N), (42, .int .i64 k)])
          (fun k => [(y2, .cells ⟨ivec N (fun x => if x < k then (x : Int) else 0)⟩ 3 (0, 0)), (y1, .cells ⟨netCells N A l.length cap⟩ 24 (0, 0))]) (fun k => N - k) 0 (by omega) (by repeat (first | exact EnvSub.nil | refine EnvSub.cons rfl (by first | rfl | (congr 1; done) | (exact congrArg (Value.int _) (by omega)) | (simp; done)) ?_)) (by repeat (first | exact MSub.nil | refine MSub.keep (by first | rfl | assumption) ?_ | refine MSub.drop ?_ | exact MSub.refl _)) ?_
        intro k hk
        by_cases hlt : k < N
        · have hst : iset (fun x => if x < k then (x : Int) else 0) k (k : Int) = fun x => if x < k + 1 then (x : Int) else 0 := by
            funext x
            unfold iset
            by_cases h1 : x = k
            · simp [h1]
            · rw [if_neg h1]
              show (if x < k then (x : Int) else 0) = if x < k + 1 then (x : Int) else 0
              by_cases h2 : x < k
              · rw [if_pos h2, if_pos (by omega)]
              · rw [if_neg h2, if_neg (by omega)]
          repeat (first | refine l_val rfl rfl (by first | exact v_add rfl rfl (by omega) (by omega) | exact pureEval_ok rfl | exact v_index rfl rfl rfl rfl (by omega) (by omega) (by with_reducible first | exact idx1 _  ) ) ?_ | refine l_nil ?_ | refine c_region ?_ | refine c_seq ?_ | refine x_then ?_ | refine r_store_at rfl rfl rfl rfl rfl rfl (by repeat (first | exact Upd.head | apply Upd.tail)) (by first | (rw [ivec_length]; omega) ) (by first | exact ivec_set ) ?_ | refine c_dec_t rfl (by first | omega ) ?_ | refine c_block ?_ | refine c_skip ?_ | refine x_block ?_ )
          refine x_back (k + 1) hlt (by omega) (by repeat (first | exact EnvSub.nil | refine EnvSub.cons rfl (by first | rfl | (congr 1; done) | (exact congrArg (Value.int _) (by omega)) | (simp; done)) ?_)) ?_
          simp only [← hst]
          exact (by repeat (first | exact MSub.nil | refine MSub.keep (by first | rfl | assumption) ?_ | refine MSub.drop ?_ | exact MSub.refl _))
        · have hkN : k = N := by omega
          subst hkN
          have hid : ivec k (fun x => if x < k then (x : Int) else 0) = ivec k (fun x => (((fun y => y) x : Nat) : Int)) := ivec_congr fun x hx => by rw [if_pos hx]
          rw [hid]
          repeat (first | refine l_val rfl rfl (by first | exact pureEval_ok rfl ) ?_ | refine l_nil ?_ | refine c_region ?_ | refine c_seq ?_ | refine x_then ?_ | refine c_dec_f rfl (by first | omega ) ?_ | refine c_block ?_ | refine c_exit ?_ | refine x_then_exit ?_ | refine x_block_same ?_ )
          refine c_loop (ι := Nat × (Nat → Nat) × (Nat → Nat)) (fun s => s.1 ≤ sw.length ∧ Pm k s.2.1 s.2.2) (fun s => [(2, .pointer (some ⟨y1, 0, none⟩)), (5, .slice (some ⟨y2, 0, none⟩) k k), (50, .slice T sw.length capT), (51, .int .i64 sw.length), (52, .int .i64 s.1)])
            (fun s => [(y2, .cells ⟨ivec k (fun x => (s.2.1 x : Int))⟩ 3 (0, 0)), (y1, .cells ⟨netCells k A l.length cap⟩ 24 (0, 0))]) (fun s => sw.length - s.1) (0, fun y => y, fun y => y) ⟨by simp only; omega, pm_id k⟩ (by repeat (first | exact EnvSub.nil | refine EnvSub.cons rfl (by first | rfl | (congr 1; done) | (exact congrArg (Value.int _) (by omega)) | (simp; done)) ?_)) (by repeat (first | exact MSub.nil | refine MSub.keep (by first | rfl | assumption) ?_ | refine MSub.drop ?_ | exact MSub.refl _)) ?_
          rintro ⟨i, σ, τ⟩ ⟨hi, hP⟩
          simp only at hi hP ⊢
          by_cases hlt2 : i < sw.length
          · obtain ⟨v, hv⟩ : ∃ v, sw[i]? = some v := ⟨_, List.getElem?_eq_getElem hlt2⟩
            have hvb := hsw v (List.mem_of_getElem? hv)
            obtain ⟨b2, o2, rfl, hc2⟩ := hT i (u8E v) (by simp [hv])
            have x2 := ext_of hc2
            rw [Nat.mul_one] at x2
            have hwv : IntKind.i64.wrap v = v := wrap_i64 (by omega) (by omega)
            have p1 := Int.emod_nonneg (i : Int) (show (k : Int) ≠ 0 by omega)
            have p2 := Int.emod_lt_of_pos (i : Int) (show 0 < (k : Int) by omega)
            have q1 := Int.emod_nonneg (IntKind.i64.wrap v) (show (k : Int) ≠ 0 by omega)
            have q2 := Int.emod_lt_of_pos (IntKind.i64.wrap v) (show 0 < (k : Int) by omega)
            repeat ((fail_if_success refine c_probe (id := 15) ?_); (fail_if_success refine c_probe1 (id := 15) ?_); first | refine l_val rfl rfl (by first | exact pureEval_ok rfl | exact v_load_ext0 rfl (by assumption) rfl (by rfl) | exact v_index rfl rfl rfl rfl (by omega) (by omega) (by with_reducible first | exact idx2 _ _  ) ) ?_ | refine l_nil ?_ | refine c_region ?_ | refine c_seq ?_ | refine x_then ?_ | refine c_dec_t rfl (by first | omega ) ?_ | refine c_block ?_ | refine c_skip ?_ | refine c_reads rfl (by decide +kernel) ?_ | refine q_val rfl rfl (by first | exact pureEval_ok rfl | exact v_load rfl (by repeat (first | exact List.Mem.head _ | apply List.Mem.tail)) rfl (by rfl) | exact v_rem rfl rfl (by omega) (by omega) ) ?_ | refine q_nil ?_ )
            obtain ⟨P, hPe⟩ : ∃ P : Nat, (i : Int) % k = P := ⟨((i : Int) % k).toNat, by omega⟩
            obtain ⟨R, hRe⟩ : ∃ R : Nat, IntKind.i64.wrap v % k = R := ⟨(IntKind.i64.wrap v % k).toNat, by omega⟩
            rw [hPe] at p1 p2 ⊢
            rw [hRe] at q1 q2 ⊢
            clear hPe hRe
            have g1 := hP P (by omega)
            have g2 := hP R (by omega)
            refine c_new 1 0 [(13, .sto 0 P 1), (15, .sto 0 R 1)] [(13,[0]),(15,[0])] [(7,0),(11,0)] rfl (by decide +kernel) rfl ?_; repeat (first | refine l_val rfl rfl (by first | exact v_add rfl rfl (by omega) (by omega) | exact pureEval_ok rfl ) ?_ | refine l_nil ?_ | refine c_region ?_ | refine x_then ?_ | refine x_block ?_ | refine e_val rfl rfl rfl rfl (by first | exact pureEval_ok rfl | exact v_index rfl rfl rfl rfl (by omega) (by omega) (by with_reducible first | exact idx1 _  ) | exact v_load_at rfl (by repeat (first | exact List.Mem.head _ | apply List.Mem.tail)) rfl rfl (by first | exact ivec_get (by omega) ) ) ?_ | refine e_store rfl rfl rfl rfl rfl rfl rfl rfl (by first | rfl ) rfl rfl (by first | (rw [ivec_length]; omega) ) (by first | exact splice_one (by first | (rw [ivec_length]; omega) ) (by first | exact ivec_set ) ) ?_ | refine e_nil rfl ?_ )
            rw [← sw_cells]
            exact x_back (i + 1, swS σ P R, fun y => tr P R (τ y)) ⟨by simp only; omega, pm_swap hP (by omega) (by omega)⟩ (by simp only; omega) (by repeat (first | exact EnvSub.nil | refine EnvSub.cons rfl (by first | rfl | (congr 1; done) | (exact congrArg (Value.int _) (by omega)) | (simp; done)) ?_)) (by repeat (first | exact MSub.nil | refine MSub.keep (by first | rfl | assumption) ?_ | refine MSub.drop ?_ | exact MSub.refl _))
          · have hi2 : i = sw.length := by omega
            subst hi2
            repeat (first | refine l_val rfl rfl (by first | exact v_sub rfl rfl (by omega) (by omega) | exact pureEval_ok rfl | exact v_load rfl (by repeat (first | exact List.Mem.head _ | apply List.Mem.tail)) rfl (by rfl) | exact v_build rfl rfl (by rfl) ) ?_ | refine l_nil ?_ | refine c_region ?_ | refine c_seq ?_ | refine x_then ?_ | refine r_alloc rfl rfl rfl (by first | exact aggL ) (fun _ => ?_) | refine r_store rfl rfl rfl rfl rfl rfl rfl (by repeat (first | exact Upd.head | apply Upd.tail)) (by rfl) ?_ | refine c_dec_f rfl (by first | omega ) ?_ | refine c_block ?_ | refine c_exit ?_ | refine x_then_exit ?_ | refine x_block_same ?_ )
            rename_i y3
            refine c_loop (ι := Nat × List Lk × Nat × Nat × List Value) (fun s => s.1 ≤ l.length ∧ s.2.1 = ((l.drop s.1).reverse).map (ren σ) ∧ (s.2.1 = [] ∨ Grow 4 s.2.1.length (s.2.1.map lkE).flatten s.2.2.2.1 s.2.2.2.2))
              (fun s => [(2, .pointer (some ⟨y1, 0, none⟩)), (5, .slice (some ⟨y2, 0, none⟩) k k), (11, .pointer (some ⟨y3, 0, none⟩)), (12, .int .i64 ((s.1 : Int) - 1))])
              (fun s => rnM s.2.1 s.2.2.1 s.2.2.2.2 [(y3, .cells ⟨[.int .i64 k, rnSl s.2.1 s.2.2.1 s.2.2.2.1]⟩ 24 (0, 0)), (y2, .cells ⟨ivec k (fun x => (σ x : Int))⟩ 3 (0, 0)), (y1, .cells ⟨netCells k A l.length cap⟩ 24 (0, 0))])
              (fun s => s.1) (l.length, [], 0, 0, []) ⟨Nat.le_refl _, by simp, .inl rfl⟩ (by repeat (first | exact EnvSub.nil | refine EnvSub.cons rfl (by first | rfl | (congr 1; done) | (exact congrArg (Value.int _) (by omega)) | (simp; done)) ?_)) (by repeat (first | exact MSub.nil | refine MSub.keep (by first | rfl | assumption) ?_ | refine MSub.drop ?_ | exact MSub.refl _)) ?_
            rintro ⟨j, r, b6, cap6, rest6⟩ ⟨hj, hr, hg⟩
            simp only at hj hr hg ⊢
            have hrl : r.length = l.length - j := by rw [hr]; simp
            cases j with
            | succ i =>
              obtain ⟨x, hx⟩ : ∃ x, l[i]? = some x := ⟨_, List.getElem?_eq_getElem (by omega)⟩
              obtain ⟨bA, oA, rfl, hcA⟩ := hA i (lkE x) (by simp [hx])
              have xA := ext_of hcA
              rw [show i = (((i + 1 : Nat) : Int) - 1).toNat by omega] at xA
              have hf := hF x (List.mem_of_getElem? hx)
              unfold Lk.Fine at hf
              have hst := ren_step (σ := σ) hx
              rw [← hr] at hst
              have hgt : ((i + 1 : Nat) : Int) - 1 = i := by omega
              cases r with
              | nil =>
                simp only [rnSl, rnM]
                repeat (first | refine l_val rfl rfl (by first | exact pureEval_ok rfl | exact v_load rfl (by repeat (first | exact List.Mem.head _ | apply List.Mem.tail)) rfl (by rfl) | exact v_load_ext0 rfl (by assumption) rfl (by rfl) | exact v_index rfl rfl rfl rfl (by omega) (by omega) (by with_reducible first | exact idx8 _ _ _  ) ) ?_ | refine l_nil ?_ | refine c_region ?_ | refine c_seq ?_ | refine x_then ?_ | refine r_alloc rfl rfl rfl (by first | exact aggL ) (fun _ => ?_) | refine r_store rfl rfl rfl rfl rfl rfl rfl (by repeat (first | exact Upd.head | apply Upd.tail)) (by rfl) ?_ | refine c_dec_t rfl (by first | omega ) ?_ | refine c_block ?_ | refine c_skip ?_ )
                refine c_new 1 0 [(11, .sto 0 0 1), (13, .sto 0 1 1)] [(11,[0]),(13,[0])] [(2,0),(7,0)] rfl (by decide +kernel) rfl ?_; repeat (first | refine l_val rfl rfl (by first | exact pureEval_ok rfl | exact v_load rfl (by repeat (first | exact List.Mem.head _ | apply List.Mem.tail)) rfl (by rfl) ) ?_ | refine c_region ?_ | refine x_then ?_ | refine r_buildSlice rfl rfl rfl rfl rfl rfl (by rfl) (fun _ => ?_) | refine e_val rfl rfl rfl rfl (by first | exact pureEval_ok rfl | exact v_load rfl (by repeat (first | exact List.Mem.head _ | apply List.Mem.tail)) rfl (by rfl) | exact v_index rfl rfl rfl rfl (by omega) (by omega) (by with_reducible first | exact idx5 _  ) | exact v_load_at rfl (by repeat (first | exact List.Mem.head _ | apply List.Mem.tail)) rfl rfl (by first | exact ivec_get (by omega) ) ) ?_ | refine e_store rfl rfl rfl rfl rfl rfl rfl rfl (by first | rfl ) rfl rfl (by first | (simp; done) ) (by first | exact splice_lit (by rfl) ) ?_ | refine e_nil rfl ?_ )
                refine r_append_nil (m := 1) (ys := lkE (ren σ x)) rfl rfl rfl rfl rfl rfl (news_own (by repeat (first | exact List.Mem.head _ | apply List.Mem.tail))) rfl rfl (by decide) (by decide) (by decide) (fun b7 cap7 rest7 hg7 => ?_)
                repeat (first | refine l_val rfl rfl (by first | exact v_sub rfl rfl (by omega) (by omega) | exact pureEval_ok rfl ) ?_ | refine l_nil ?_ | refine c_region ?_ | refine x_then ?_ | refine r_store rfl rfl rfl rfl rfl rfl rfl (by repeat (first | exact Upd.head | apply Upd.tail)) (by rfl) ?_ | refine x_block ?_ )
                refine x_back (i, [ren σ x], b7, cap7, rest7) ⟨by simp only; omega, by simp only; rw [hst]; rfl, .inr (by simpa using hg7)⟩ (by simp only; omega) (by repeat (first | exact EnvSub.nil | refine EnvSub.cons rfl (by first | rfl | (congr 1; done) | (exact congrArg (Value.int _) (by omega)) | (simp; done)) ?_)) ?_
                simp only [rnM, rnSl, List.map_cons, List.map_nil, List.flatten_cons, List.flatten_nil, List.append_nil]
                exact (by repeat (first | exact MSub.nil | refine MSub.keep (by first | rfl | assumption) ?_ | refine MSub.drop ?_ | exact MSub.refl _))
              | cons y r =>
                simp only [rnSl, rnM]
                have hg := hg.resolve_left (by simp)
                have hrl2 : r.length + 1 = l.length - (i + 1) := by simpa using hrl
                repeat (first | refine l_val rfl rfl (by first | exact pureEval_ok rfl | exact v_load rfl (by repeat (first | exact List.Mem.head _ | apply List.Mem.tail)) rfl (by rfl) | exact v_load_ext0 rfl (by assumption) rfl (by rfl) | exact v_index rfl rfl rfl rfl (by omega) (by omega) (by with_reducible first | exact idx8 _ _ _  ) ) ?_ | refine l_nil ?_ | refine c_region ?_ | refine c_seq ?_ | refine x_then ?_ | refine r_alloc rfl rfl rfl (by first | exact aggL ) (fun _ => ?_) | refine r_store rfl rfl rfl rfl rfl rfl rfl (by repeat (first | exact Upd.head | apply Upd.tail)) (by rfl) ?_ | refine c_dec_t rfl (by first | omega ) ?_ | refine c_block ?_ | refine c_skip ?_ )
                refine c_new 1 0 [(11, .sto 0 0 1), (13, .sto 0 1 1)] [(11,[0]),(13,[0])] [(2,0),(7,0)] rfl (by decide +kernel) rfl ?_; repeat (first | refine l_val rfl rfl (by first | exact pureEval_ok rfl | exact v_load rfl (by repeat (first | exact List.Mem.head _ | apply List.Mem.tail)) rfl (by rfl) ) ?_ | refine c_region ?_ | refine x_then ?_ | refine r_buildSlice rfl rfl rfl rfl rfl rfl (by rfl) (fun _ => ?_) | refine e_val rfl rfl rfl rfl (by first | exact pureEval_ok rfl | exact v_load rfl (by repeat (first | exact List.Mem.head _ | apply List.Mem.tail)) rfl (by rfl) | exact v_index rfl rfl rfl rfl (by omega) (by omega) (by with_reducible first | exact idx5 _  ) | exact v_load_at rfl (by repeat (first | exact List.Mem.head _ | apply List.Mem.tail)) rfl rfl (by first | exact ivec_get (by omega) ) ) ?_ | refine e_store rfl rfl rfl rfl rfl rfl rfl rfl (by first | rfl ) rfl rfl (by first | (simp; done) ) (by first | exact splice_lit (by rfl) ) ?_ | refine e_nil rfl ?_ )
                refine r_append (m := 1) (ys := lkE (ren σ x)) rfl rfl rfl rfl rfl rfl (news_own (by repeat (first | exact List.Mem.head _ | apply List.Mem.tail))) (by repeat (first | exact Rem.head | apply Rem.tail)) hg rfl rfl (by decide) (by omega) (by unfold maxLen; omega) (fun b7 cap7 rest7 hg7 => ?_)
                have e1 : ((y :: r).map lkE).flatten ++ lkE (ren σ x) = ((y :: (r ++ [ren σ x])).map lkE).flatten := by simp
                have e2 : (y :: (r ++ [ren σ x])).length = r.length + 1 + 1 := by simp
                have e3 : (r ++ [ren σ x]).length = r.length + 1 := by simp
                rw [e1] at hg7 ⊢
                repeat (first | refine l_val rfl rfl (by first | exact v_sub rfl rfl (by omega) (by omega) | exact pureEval_ok rfl ) ?_ | refine l_nil ?_ | refine c_region ?_ | refine x_then ?_ | refine r_store rfl rfl rfl rfl rfl rfl rfl (by repeat (first | exact Upd.head | apply Upd.tail)) (by rfl) ?_ | refine x_block ?_ )
                refine x_back (i, y :: (r ++ [ren σ x]), b7, cap7, rest7) ⟨by simp only; omega, by simp only; rw [hst]; rfl, .inr (by simp only; rw [e2]; exact hg7)⟩ (by simp only; omega) (by repeat (first | exact EnvSub.nil | refine EnvSub.cons rfl (by first | rfl | (congr 1; done) | (exact congrArg (Value.int _) (by omega)) | (simp; done)) ?_)) ?_
                simp only [rnM, rnSl, e3]
                exact (by repeat (first | exact MSub.nil | refine MSub.keep (by first | rfl | assumption) ?_ | refine MSub.drop ?_ | exact MSub.refl _))
            | zero =>
              rw [List.drop_zero] at hr
              rw [Nat.sub_zero] at hrl
              have hlr : (l.reverse.map (ren σ)).length = r.length := by rw [hr]
              cases r with
              | nil =>
                simp only [rnSl, rnM]
                repeat (first | refine l_val rfl rfl (by first | exact pureEval_ok rfl | exact v_load rfl (by repeat (first | exact List.Mem.head _ | apply List.Mem.tail)) rfl (by rfl) ) ?_ | refine l_nil ?_ | refine c_region ?_ | refine c_seq ?_ | refine x_then ?_ | refine c_false rfl ?_ | refine c_exit ?_ | refine x_then_exit ?_ | refine x_block_same ?_ )
                cases he : ear k l with
                | none =>
                  refine r_call rfl rfl rfl (fun W hW => hc ▸ earQ_none (Ear_calls k A cap l W (by omega) (hA.sat hW)) he) ?_
                  repeat (first | refine l_val rfl rfl (by first | exact pureEval_ok rfl | exact v_load rfl (by repeat (first | exact List.Mem.head _ | apply List.Mem.tail)) rfl (by rfl) ) ?_ | refine l_nil ?_ | refine c_region ?_ | refine c_seq ?_ | refine x_then ?_ )
                  refine r_call rfl rfl rfl (fun W hW => ren_chk hP hc ▸ hlr ▸ earQ_none (Ear_calls k none 0 (l.reverse.map (ren σ)) W (by rw [hlr]; omega) (by rw [← hr]; exact at_nil _ _)) (ren_none he hc)) ?_
                  repeat (first | refine l_val rfl rfl (by first | exact pureEval_ok rfl ) ?_ | refine l_nil ?_ | refine c_region ?_ | refine c_seq ?_ | refine x_then ?_ | refine c_true rfl ?_ | refine c_false rfl ?_ | refine c_skip ?_ | refine c_ret ?_ | refine x_then_ret ?_ )
                  exact x_ret rfl rfl (by repeat (first | exact Res.nil | (apply Res.tmp; rfl) | (apply Res.cell; rfl; exact (by repeat (first | exact List.Mem.head _ | apply List.Mem.tail)); rfl; rfl))) rfl (fun W hW => ⟨by first | rfl | (simp; done) | (simp_all; done), hW.below⟩)
                | some L =>
                  obtain ⟨U, hU, hUL⟩ := ren_ear hP he
                  refine r_call1 (ι := Nat) (bk := fun b => b) rfl rfl rfl (fun W hW => earQ_some (Ear_calls k A cap l W (by omega) (hA.sat hW)) he) (fun b1 => ?_)
                  repeat (first | refine l_val rfl rfl (by first | exact pureEval_ok rfl | exact v_load rfl (by repeat (first | exact List.Mem.head _ | apply List.Mem.tail)) rfl (by rfl) ) ?_ | refine l_nil ?_ | refine c_region ?_ | refine c_seq ?_ | refine x_then ?_ )
                  refine r_call1 (ι := Nat) (bk := fun b => b) rfl rfl rfl (fun W hW => hlr ▸ earQ_some (Ear_calls k none 0 (l.reverse.map (ren σ)) W (by rw [hlr]; omega) (by rw [← hr]; exact at_nil _ _)) hU) (fun b2 => ?_)
                  repeat (first | refine l_val rfl rfl (by first | exact pureEval_ok rfl | exact v_load rfl (by repeat (first | exact List.Mem.head _ | apply List.Mem.tail)) rfl (by rfl) ) ?_ | refine l_nil ?_ | refine c_region ?_ | refine c_seq ?_ | refine x_then ?_ | refine c_false rfl ?_ | refine c_dec_f rfl (by first | omega ) ?_ | refine c_block ?_ | refine c_skip ?_ | refine l_dec_f rfl rfl rfl rfl rfl (by first | omega ) ?_ )
                  refine c_loop (ι := Nat) (fun i => i ≤ k) (fun i => [(5, .slice (some ⟨y2, 0, none⟩) k k), (14, .slice (some ⟨b1, 0, none⟩) (k : Int).toNat (k : Int).toNat), (17, .slice (some ⟨b2, 0, none⟩) (k : Int).toNat (k : Int).toNat), (153, .int .i64 (k : Int).toNat), (154, .int .i64 i)])
                    (fun _ => [(b2, .cells ⟨ivec (k : Int).toNat U⟩ 3 (0, 0)), (b1, .cells ⟨ivec (k : Int).toNat L⟩ 3 (0, 0)), (y2, .cells ⟨ivec k (fun x => (σ x : Int))⟩ 3 (0, 0))]) (fun i => k - i) 0 (by omega) (by repeat (first | exact EnvSub.nil | refine EnvSub.cons rfl (by first | rfl | (congr 1; done) | (exact congrArg (Value.int _) (by omega)) | (simp; done)) ?_)) (by repeat (first | exact MSub.nil | refine MSub.keep (by first | rfl | assumption) ?_ | refine MSub.drop ?_ | exact MSub.refl _)) ?_
                  intro i hi
                  by_cases hlt3 : i < k
                  · have h1 := hP i hlt3
                    have h2 := hUL i hlt3
                    repeat (first | refine l_val rfl rfl (by first | exact v_add rfl rfl (by omega) (by omega) | exact pureEval_ok rfl ) ?_ | refine l_nil ?_ | refine c_region ?_ | refine c_seq ?_ | refine x_then ?_ | refine c_dec_t rfl (by first | omega ) ?_ | refine c_dec_f rfl (by first | omega ) ?_ | refine c_block ?_ | refine c_skip ?_ | refine x_block ?_ | refine c_reads rfl (by decide +kernel) ?_ | refine q_val rfl rfl (by first | exact pureEval_ok rfl | exact v_index rfl rfl rfl rfl (by omega) (by omega) (by with_reducible first | exact idx1 _  ) | exact v_load_at rfl (by repeat (first | exact List.Mem.head _ | apply List.Mem.tail)) rfl rfl (by first | exact ivec_get (by omega) ) ) ?_ | refine q_nil ?_ )
                    exact x_back (i + 1) hlt3 (by omega) (by repeat (first | exact EnvSub.nil | refine EnvSub.cons rfl (by first | rfl | (congr 1; done) | (exact congrArg (Value.int _) (by omega)) | (simp; done)) ?_)) (by repeat (first | exact MSub.nil | refine MSub.keep (by first | rfl | assumption) ?_ | refine MSub.drop ?_ | exact MSub.refl _))
                  · repeat (first | refine l_val rfl rfl (by first | exact pureEval_ok rfl ) ?_ | refine l_nil ?_ | refine c_region ?_ | refine c_seq ?_ | refine x_then ?_ | refine c_dec_f rfl (by first | omega ) ?_ | refine c_ret ?_ | refine c_exit ?_ | refine x_then_exit ?_ | refine x_block_same ?_ )
                    exact x_ret rfl rfl (by repeat (first | exact Res.nil | (apply Res.tmp; rfl) | (apply Res.cell; rfl; exact (by repeat (first | exact List.Mem.head _ | apply List.Mem.tail)); rfl; rfl))) rfl (fun W hW => ⟨by first | rfl | (simp; done) | (simp_all; done), hW.below⟩)
              | cons y r =>
                simp only [rnSl, rnM]
                have hrow : ((y :: r).map lkE).flatten ++ rest6 = ((l.reverse.map (ren σ)).map lkE).flatten ++ rest6 := by rw [← hr]
                rw [List.length_cons] at hlr hrl
                repeat (first | refine l_val rfl rfl (by first | exact pureEval_ok rfl | exact v_load rfl (by repeat (first | exact List.Mem.head _ | apply List.Mem.tail)) rfl (by rfl) ) ?_ | refine l_nil ?_ | refine c_region ?_ | refine c_seq ?_ | refine x_then ?_ | refine c_false rfl ?_ | refine c_exit ?_ | refine x_then_exit ?_ | refine x_block_same ?_ )
                cases he : ear k l with
                | none =>
                  refine r_call rfl rfl rfl (fun W hW => hc ▸ earQ_none (Ear_calls k A cap l W (by omega) (hA.sat hW)) he) ?_
                  repeat (first | refine l_val rfl rfl (by first | exact pureEval_ok rfl | exact v_load rfl (by repeat (first | exact List.Mem.head _ | apply List.Mem.tail)) rfl (by rfl) ) ?_ | refine l_nil ?_ | refine c_region ?_ | refine c_seq ?_ | refine x_then ?_ )
                  refine r_call rfl rfl rfl (fun W hW => ren_chk hP hc ▸ hlr ▸ earQ_none (Ear_calls k (some ⟨b6, 0, none⟩) cap6 (l.reverse.map (ren σ)) W (by rw [hlr]; omega) (hW.rows (b := b6) (by repeat (first | exact List.Mem.head _ | apply List.Mem.tail)) hrow (lk_len _))) (ren_none he hc)) ?_
                  repeat (first | refine l_val rfl rfl (by first | exact pureEval_ok rfl ) ?_ | refine l_nil ?_ | refine c_region ?_ | refine c_seq ?_ | refine x_then ?_ | refine c_true rfl ?_ | refine c_false rfl ?_ | refine c_skip ?_ | refine c_ret ?_ | refine x_then_ret ?_ )
                  exact x_ret rfl rfl (by repeat (first | exact Res.nil | (apply Res.tmp; rfl) | (apply Res.cell; rfl; exact (by repeat (first | exact List.Mem.head _ | apply List.Mem.tail)); rfl; rfl))) rfl (fun W hW => ⟨by first | rfl | (simp; done) | (simp_all; done), hW.below⟩)
                | some L =>
                  obtain ⟨U, hU, hUL⟩ := ren_ear hP he
                  refine r_call1 (ι := Nat) (bk := fun b => b) rfl rfl rfl (fun W hW => earQ_some (Ear_calls k A cap l W (by omega) (hA.sat hW)) he) (fun b1 => ?_)
                  repeat (first | refine l_val rfl rfl (by first | exact pureEval_ok rfl | exact v_load rfl (by repeat (first | exact List.Mem.head _ | apply List.Mem.tail)) rfl (by rfl) ) ?_ | refine l_nil ?_ | refine c_region ?_ | refine c_seq ?_ | refine x_then ?_ )
                  refine r_call1 (ι := Nat) (bk := fun b => b) rfl rfl rfl (fun W hW => hlr ▸ earQ_some (Ear_calls k (some ⟨b6, 0, none⟩) cap6 (l.reverse.map (ren σ)) W (by rw [hlr]; omega) (hW.rows (b := b6) (by repeat (first | exact List.Mem.head _ | apply List.Mem.tail)) hrow (lk_len _))) hU) (fun b2 => ?_)
                  repeat (first | refine l_val rfl rfl (by first | exact pureEval_ok rfl | exact v_load rfl (by repeat (first | exact List.Mem.head _ | apply List.Mem.tail)) rfl (by rfl) ) ?_ | refine l_nil ?_ | refine c_region ?_ | refine c_seq ?_ | refine x_then ?_ | refine c_false rfl ?_ | refine c_dec_f rfl (by first | omega ) ?_ | refine c_block ?_ | refine c_skip ?_ | refine l_dec_f rfl rfl rfl rfl rfl (by first | omega ) ?_ )
                  refine c_loop (ι := Nat) (fun i => i ≤ k) (fun i => [(5, .slice (some ⟨y2, 0, none⟩) k k), (14, .slice (some ⟨b1, 0, none⟩) (k : Int).toNat (k : Int).toNat), (17, .slice (some ⟨b2, 0, none⟩) (k : Int).toNat (k : Int).toNat), (153, .int .i64 (k : Int).toNat), (154, .int .i64 i)])
                    (fun _ => [(b2, .cells ⟨ivec (k : Int).toNat U⟩ 3 (0, 0)), (b1, .cells ⟨ivec (k : Int).toNat L⟩ 3 (0, 0)), (y2, .cells ⟨ivec k (fun x => (σ x : Int))⟩ 3 (0, 0))]) (fun i => k - i) 0 (by omega) (by repeat (first | exact EnvSub.nil | refine EnvSub.cons rfl (by first | rfl | (congr 1; done) | (exact congrArg (Value.int _) (by omega)) | (simp; done)) ?_)) (by repeat (first | exact MSub.nil | refine MSub.keep (by first | rfl | assumption) ?_ | refine MSub.drop ?_ | exact MSub.refl _)) ?_
                  intro i hi
                  by_cases hlt3 : i < k
                  · have h1 := hP i hlt3
                    have h2 := hUL i hlt3
                    repeat (first | refine l_val rfl rfl (by first | exact v_add rfl rfl (by omega) (by omega) | exact pureEval_ok rfl ) ?_ | refine l_nil ?_ | refine c_region ?_ | refine c_seq ?_ | refine x_then ?_ | refine c_dec_t rfl (by first | omega ) ?_ | refine c_dec_f rfl (by first | omega ) ?_ | refine c_block ?_ | refine c_skip ?_ | refine x_block ?_ | refine c_reads rfl (by decide +kernel) ?_ | refine q_val rfl rfl (by first | exact pureEval_ok rfl | exact v_index rfl rfl rfl rfl (by omega) (by omega) (by with_reducible first | exact idx1 _  ) | exact v_load_at rfl (by repeat (first | exact List.Mem.head _ | apply List.Mem.tail)) rfl rfl (by first | exact ivec_get (by omega) ) ) ?_ | refine q_nil ?_ )
                    exact x_back (i + 1) hlt3 (by omega) (by repeat (first | exact EnvSub.nil | refine EnvSub.cons rfl (by first | rfl | (congr 1; done) | (exact congrArg (Value.int _) (by omega)) | (simp; done)) ?_)) (by repeat (first | exact MSub.nil | refine MSub.keep (by first | rfl | assumption) ?_ | refine MSub.drop ?_ | exact MSub.refl _))
                  · repeat (first | refine l_val rfl rfl (by first | exact pureEval_ok rfl ) ?_ | refine l_nil ?_ | refine c_region ?_ | refine c_seq ?_ | refine x_then ?_ | refine c_dec_f rfl (by first | omega ) ?_ | refine c_ret ?_ | refine c_exit ?_ | refine x_then_exit ?_ | refine x_block_same ?_ )
                    exact x_ret rfl rfl (by repeat (first | exact Res.nil | (apply Res.tmp; rfl) | (apply Res.cell; rfl; exact (by repeat (first | exact List.Mem.head _ | apply List.Mem.tail)); rfl; rfl))) rfl (fun W hW => ⟨by first | rfl | (simp; done) | (simp_all; done), hW.below⟩)
      · repeat (first | refine l_val rfl rfl (by first | exact pureEval_ok rfl ) ?_ | refine l_nil ?_ | refine c_region ?_ | refine c_seq ?_ | refine x_then ?_ | refine c_dec_t rfl (by first | omega ) ?_ | refine c_ret ?_ | refine x_then_ret ?_ )
        exact x_ret rfl rfl (by repeat (first | exact Res.nil | (apply Res.tmp; rfl) | (apply Res.cell; rfl; exact (by repeat (first | exact List.Mem.head _ | apply List.Mem.tail)); rfl; rfl))) rfl (fun W hW => ⟨by first | rfl | (simp; done) | (simp_all; done), hW.below⟩)
    · repeat (first | refine l_val rfl rfl (by first | exact pureEval_ok rfl | exact v_load rfl (by repeat (first | exact List.Mem.head _ | apply List.Mem.tail)) rfl (by rfl) ) ?_ | refine l_nil ?_ | refine c_region ?_ | refine c_seq ?_ | refine x_then ?_ | refine l_skip rfl rfl ?_ | refine c_true rfl ?_ | refine c_false rfl ?_ | refine c_skip ?_ | refine c_ret ?_ | refine x_then_ret ?_ | refine l_dec_t rfl rfl rfl rfl rfl (by first | omega ) ?_ | refine l_dec_f rfl rfl rfl rfl rfl (by first | omega ) ?_ )
      exact x_ret rfl rfl (by repeat (first | exact Res.nil | (apply Res.tmp; rfl) | (apply Res.cell; rfl; exact (by repeat (first | exact List.Mem.head _ | apply List.Mem.tail)); rfl; rfl))) rfl (fun W hW => ⟨by first | rfl | (simp; done) | (simp_all; done), hW.below⟩)
  · repeat (first | refine l_val rfl rfl (by first | exact pureEval_ok rfl | exact v_load rfl (by repeat (first | exact List.Mem.head _ | apply List.Mem.tail)) rfl (by rfl) ) ?_ | refine l_nil ?_ | refine c_region ?_ | refine c_seq ?_ | refine x_then ?_ | refine l_skip rfl rfl ?_ | refine c_true rfl ?_ | refine c_false rfl ?_ | refine c_skip ?_ | refine c_ret ?_ | refine x_then_ret ?_ | refine l_dec_t rfl rfl rfl rfl rfl (by first | omega ) ?_ )
    exact x_ret rfl rfl (by repeat (first | exact Res.nil | (apply Res.tmp; rfl) | (apply Res.cell; rfl; exact (by repeat (first | exact List.Mem.head _ | apply List.Mem.tail)); rfl; rfl))) rfl (fun W hW => ⟨by first | rfl | (simp; done) | (simp_all; done), hW.below⟩)
end R22
end Go.Proofs

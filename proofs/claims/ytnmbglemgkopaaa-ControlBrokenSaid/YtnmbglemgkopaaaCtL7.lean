/- Uncertain networks: the law Broken. -/
import Derived.Test.YtnmbglemgkopaaaCtLw
import Derived.Test.YtnmbglemgkopaaaCtI
import Derived.Test.YtnmbglemgkopaaaCtSan
set_option linter.unusedSectionVars false
set_option linter.unusedVariables false
set_option linter.unusedSimpArgs false
namespace Go.Proofs
open Go.RowKit Go.Kin Go.Kin.St Go.Kin.Ct
open R22 (lkE)
namespace R23
theorem rft_own {n : Int} {L C : List Lk} {w w' : World} {e : Ending} (h0 : chkU n L C = 0) (hs : str n L C = none) (hq : RftQ n L C w e w') : ∃ p : {p : List Us × Nat × Nat × List Value // p.1 ≠ [] ∧ p.1.length ≤ 64 ∧ accepts (net C n.toNat L) p.1 = true}, e = .returned (.tuple ⟨[.slice (some ⟨p.1.2.1, 0, none⟩) p.1.1.length p.1.2.2.1, .bool true, .int .i64 0]⟩) ∧ Below w.heap.size w w' ∧ w.heap.size ≤ p.1.2.1 ∧
    w'.heap[p.1.2.1]? = some (.cells ⟨flat p.1.1.length (fun j => usE (p.1.1.getD j ⟨0, false⟩)) ++ p.1.2.2.2⟩ 52 (0, 0)) := by
  rcases hq with ⟨g | ⟨t, g⟩, _⟩ | ⟨_, _, us, b, cap, rest, g1, g2, g3, g4, g5, g6, g7⟩
  · exact absurd h0 g
  · rw [hs] at g; cases g
  · exact ⟨⟨(us, b, cap, rest), g1, g2, g3⟩, g4, g5, g6, g7⟩
set_option maxRecDepth 100000 in
set_option maxHeartbeats 40000000 in
theorem law7 (u : Un) (T U : Option Addr) (ct capU : Nat) (t : List Int) (us : List Us) (w : World) (hA : u.In w) (hTt : Kin.At w T 1 (t.map inE)) (hU : Kin.At w U 2 (us.map usE)) (htl : t.length ≤ 9223372036854775807) (hul : us.length ≤ 9223372036854775807) :
    Calls Try.prog 7 ⟨[.agg ⟨u.v⟩, .slice T t.length ct, .slice U us.length capU]⟩ w fun e w' => e = .returned (.bool true) ∧ Below w.heap.size w w' := by
  have hfe : ∀ (W : World), Calls Try.prog 13 ⟨[.agg ⟨u.v⟩]⟩ W fun e w' => e = .returned (.bool (fewB u.n u.L.length u.C.length)) ∧ Below W.heap.size W w' := fun W => Few_calls u W
  have hfw : fewB u.n u.L.length u.C.length = true → chkU u.n u.L u.C = 0 → u.L.length ≤ 30 ∧ u.C.length ≤ 30 := fun hf h0 => by have := (few_yes hf).2.2 h0; exact ⟨this.1, this.2.1⟩
  have h16 : ∀ (mem : List (Nat × Obj)) (W : World), fewB u.n u.L.length u.C.length = true → SatW w (base w) noJ mem W → Calls Try.prog 16 ⟨[.agg ⟨u.v⟩]⟩ W fun e w' => e = .returned (.int .i64 (chkU u.n u.L u.C)) ∧ Below W.heap.size W w' := fun mem W hf hW => Check_calls u W (hA.sat hW) (by have := (few_yes hf).1; omega)
  have h24 : ∀ (mem : List (Nat × Obj)) (W : World), fewB u.n u.L.length u.C.length = true → SatW w (base w) noJ mem W → Calls Try.prog 24 ⟨[.agg ⟨u.v⟩]⟩ W (RftQ u.n u.L u.C W) := fun mem W hf hW => Refute_calls u W (hA.sat hW) (by have := (few_yes hf).1; omega) (hfw hf)
  have h27 : ∀ (mem : List (Nat × Obj)) (W : World), fewB u.n u.L.length u.C.length = true → us.length ≤ 300 → SatW w (base w) noJ mem W → Calls Try.prog 27 ⟨[.agg ⟨u.v⟩, .slice U us.length capU]⟩ W fun e w' => e = .returned (acV u.n u.L u.C us) ∧ Below W.heap.size W w' := fun mem W hf hl hW => Accepts_calls u U capU us W (hA.sat hW) (by have := (few_yes hf).1; omega) (hU.sat hW) (by omega)
  have h28 : ∀ (N : Nat) (x : Lk) (lw : Bool) (mem : List (Nat × Obj)) (W : World), u.n = N → chkU u.n u.L u.C = 0 → u.L.length ≤ 1000 → t.length = N → Times t → x ∈ u.L → SatW w (base w) noJ mem W → Calls Try.prog 28 ⟨[.agg ⟨u.v⟩, .slice T t.length ct, .agg ⟨lkE x⟩, .bool lw]⟩ W fun e w' => e = .returned (.bool (brB u.C N (tf t) x lw)) ∧ Below W.heap.size W w' := fun N x lw mem W hn h0 hl htl ht hx hW => breaks_calls u N T ct t x lw W hn (hA.sat hW) h0 hl (hTt.sat hW) htl ht hx
  have hAl := hA.l
  obtain ⟨n, A, cap, L, B, cab, C⟩ := u
  simp only [Un.v, lkE] at hfe hfw h16 h24 h27 h28 hAl ⊢
  refine fun_enter Try.func7 rfl Try.ntmps7 rfl rfl (satW_nil w) ?_
  repeat (first | refine l_val rfl rfl (by first | exact pureEval_ok rfl  | fail) ?_ | refine l_nil ?_ | refine c_region ?_ | refine c_seq ?_ | refine x_then ?_ | refine r_box rfl rfl rfl rfl (fun _ => ?_)  | fail)
  refine r_call rfl rfl rfl (fun W hW => sane_calls W) ?_
  repeat (first | refine l_val rfl rfl (by first | exact pureEval_ok rfl | exact v_load rfl (by repeat (first | exact List.Mem.head _ | apply List.Mem.tail)) rfl (by rfl)  | fail) ?_ | refine l_nil ?_ | refine c_region ?_ | refine c_seq ?_ | refine x_then ?_ | refine c_false rfl ?_ | refine c_skip ?_  | fail)
  refine r_call rfl rfl rfl (fun W hW => hfe W) ?_
  cases hf : fewB n L.length C.length with
  | false =>
    repeat (first | refine l_val rfl rfl (by first | exact pureEval_ok rfl | exact v_load rfl (by repeat (first | exact List.Mem.head _ | apply List.Mem.tail)) rfl (by rfl)  | fail) ?_ | refine l_nil ?_ | refine c_region ?_ | refine c_seq ?_ | refine x_then ?_ | refine l_skip rfl rfl ?_ | refine c_true rfl ?_ | refine c_ret ?_ | refine x_then_ret ?_  | fail)
    exact x_ret rfl rfl (by repeat (first | exact Res.nil | (apply Res.tmp; rfl) | (apply Res.cell; rfl; exact (by repeat (first | exact List.Mem.head _ | apply List.Mem.tail)); rfl; rfl))) rfl (fun W hW => ⟨rfl, hW.below⟩)
  | true =>
    by_cases hl : us.length ≤ 300
    rotate_left
    · repeat (first | refine l_val rfl rfl (by first | exact pureEval_ok rfl | exact v_load rfl (by repeat (first | exact List.Mem.head _ | apply List.Mem.tail)) rfl (by rfl)  | fail) ?_ | refine l_nil ?_ | refine c_region ?_ | refine c_seq ?_ | refine x_then ?_ | refine l_skip rfl rfl ?_ | refine c_true rfl ?_ | refine c_ret ?_ | refine x_then_ret ?_ | refine l_dec_t rfl rfl rfl rfl rfl (by first | omega  | fail) ?_  | fail)
      exact x_ret rfl rfl (by repeat (first | exact Res.nil | (apply Res.tmp; rfl) | (apply Res.cell; rfl; exact (by repeat (first | exact List.Mem.head _ | apply List.Mem.tail)); rfl; rfl))) rfl (fun W hW => ⟨rfl, hW.below⟩)
    repeat (first | refine l_val rfl rfl (by first | exact pureEval_ok rfl | exact v_load rfl (by repeat (first | exact List.Mem.head _ | apply List.Mem.tail)) rfl (by rfl)  | fail) ?_ | refine l_dec_f rfl rfl rfl rfl rfl (by first | omega | exact fun h => h rfl  | fail) ?_  | fail)
    refine r_call rfl rfl rfl (fun W hW => h16 _ W hf hW) ?_
    by_cases h0 : chkU n L C = 0
    rotate_left
    · repeat (first | refine l_val rfl rfl (by first | exact pureEval_ok rfl  | fail) ?_ | refine l_nil ?_ | refine c_region ?_ | refine c_seq ?_ | refine x_then ?_ | refine l_skip rfl rfl ?_ | refine c_true rfl ?_ | refine c_ret ?_ | refine x_then_ret ?_ | refine l_dec_t rfl rfl rfl rfl rfl (by first | omega  | fail) ?_  | fail)
      exact x_ret rfl rfl (by repeat (first | exact Res.nil | (apply Res.tmp; rfl) | (apply Res.cell; rfl; exact (by repeat (first | exact List.Mem.head _ | apply List.Mem.tail)); rfl; rfl))) rfl (fun W hW => ⟨rfl, hW.below⟩)
    rw [h0]
    obtain ⟨n1, n2, l1, l2, hF, hT⟩ := chkU_ok h0
    obtain ⟨N, rfl⟩ : ∃ N : Nat, n = N := ⟨n.toNat, by omega⟩
    rw [Int.toNat_natCast] at hT
    by_cases htn : t.length = N
    rotate_left
    · repeat (first | refine l_val rfl rfl (by first | exact pureEval_ok rfl | exact v_load rfl (by repeat (first | exact List.Mem.head _ | apply List.Mem.tail)) rfl (by rfl)  | fail) ?_ | refine l_nil ?_ | refine c_region ?_ | refine c_seq ?_ | refine x_then ?_ | refine c_dec_t rfl (by first | omega  | fail) ?_ | refine c_ret ?_ | refine x_then_ret ?_  | fail)
      exact x_ret rfl rfl (by repeat (first | exact Res.nil | (apply Res.tmp; rfl) | (apply Res.cell; rfl; exact (by repeat (first | exact List.Mem.head _ | apply List.Mem.tail)); rfl; rfl))) rfl (fun W hW => ⟨rfl, hW.below⟩)
    repeat ((fail_if_success refine c_probe (id := 6) ?_); (fail_if_success refine c_probe1 (id := 6) ?_); first | refine l_val rfl rfl (by first | exact pureEval_ok rfl | exact v_load rfl (by repeat (first | exact List.Mem.head _ | apply List.Mem.tail)) rfl (by rfl)  | fail) ?_ | refine l_nil ?_ | refine c_region ?_ | refine c_seq ?_ | refine x_then ?_ | refine c_dec_f rfl (by first | omega | exact fun h => h rfl  | fail) ?_ | refine c_block ?_ | refine c_skip ?_  | fail)
    rename_i b0
    refine c_loop (ι := Nat) (fun k => k ≤ t.length ∧ ∀ x ∈ t.take k, 0 ≤ x ∧ x ≤ 1125899906842624) (fun k => [(1, .slice T t.length ct), (2, .slice U us.length capU), (3, .pointer (some ⟨b0, 0, none⟩)), (38, .slice T t.length ct), (39, .int .i64 t.length), (40, .int .i64 k)])
      (fun _ => [(b0, .cells ⟨[.int .i64 N, .slice A L.length cap, .slice B C.length cab]⟩ 24 (0, 0))]) (fun k => t.length - k) 0 ⟨Nat.zero_le _, fun x h => by simp at h⟩ (by repeat (first | exact EnvSub.nil | refine EnvSub.cons rfl (by first | rfl | (congr 1; done) | (exact congrArg (Value.int _) (by omega)) | (simp; done)) ?_)) (by repeat (first | exact MSub.nil | refine MSub.keep (by first | rfl | assumption) ?_ | refine MSub.drop ?_ | exact MSub.refl _)) ?_
    rintro k ⟨hk, htm⟩
    by_cases hlt : k < t.length
    · obtain ⟨x, hx⟩ : ∃ x, t[k]? = some x := ⟨_, List.getElem?_eq_getElem hlt⟩
      obtain ⟨bt, ot, rfl, hct⟩ := hTt k (inE x) (by simp [hx])
      have het := ext_of hct
      rw [Nat.mul_one] at het
      have htm' := fun (_ : Unit) => htm
      clear htm
      by_cases hx0 : x < 0
      · repeat (first | refine l_val rfl rfl (by first | exact pureEval_ok rfl | exact v_load_ext0 rfl (by assumption) rfl (by rfl) | exact v_index rfl rfl rfl rfl (by omega) (by omega) (by with_reducible first | exact idx2 _ _   | fail)  | fail) ?_ | refine l_nil ?_ | refine c_region ?_ | refine c_seq ?_ | refine x_then ?_ | refine l_skip rfl rfl ?_ | refine c_true rfl ?_ | refine c_dec_t rfl (by first | omega  | fail) ?_ | refine c_block ?_ | refine c_skip ?_ | refine c_ret ?_ | refine x_then_ret ?_ | refine x_block_ret ?_ | refine l_dec_t rfl rfl rfl rfl rfl (by first | omega  | fail) ?_  | fail)
        exact x_ret rfl rfl (by repeat (first | exact Res.nil | (apply Res.tmp; rfl) | (apply Res.cell; rfl; exact (by repeat (first | exact List.Mem.head _ | apply List.Mem.tail)); rfl; rfl))) rfl (fun W hW => ⟨rfl, hW.below⟩)
      by_cases hx1 : 1125899906842624 < x
      · repeat (first | refine l_val rfl rfl (by first | exact pureEval_ok rfl | exact v_load_ext0 rfl (by assumption) rfl (by rfl) | exact v_index rfl rfl rfl rfl (by omega) (by omega) (by with_reducible first | exact idx2 _ _   | fail)  | fail) ?_ | refine l_nil ?_ | refine c_region ?_ | refine c_seq ?_ | refine x_then ?_ | refine c_dec_t rfl (by first | omega  | fail) ?_ | refine c_block ?_ | refine c_skip ?_ | refine c_ret ?_ | refine x_then_ret ?_ | refine x_block_ret ?_ | refine l_dec_f rfl rfl rfl rfl rfl (by first | omega  | fail) ?_  | fail)
        exact x_ret rfl rfl (by repeat (first | exact Res.nil | (apply Res.tmp; rfl) | (apply Res.cell; rfl; exact (by repeat (first | exact List.Mem.head _ | apply List.Mem.tail)); rfl; rfl))) rfl (fun W hW => ⟨rfl, hW.below⟩)
      repeat (first | refine l_val rfl rfl (by first | exact v_add rfl rfl (by omega) (by omega) | exact pureEval_ok rfl | exact v_load_ext0 rfl (by assumption) rfl (by rfl) | exact v_index rfl rfl rfl rfl (by omega) (by omega) (by with_reducible first | exact idx2 _ _   | fail)  | fail) ?_ | refine l_nil ?_ | refine c_region ?_ | refine c_seq ?_ | refine x_then ?_ | refine c_dec_t rfl (by first | omega  | fail) ?_ | refine c_dec_f rfl (by first | omega  | fail) ?_ | refine c_block ?_ | refine c_skip ?_ | refine x_block ?_ | refine l_dec_f rfl rfl rfl rfl rfl (by first | omega  | fail) ?_  | fail)
      refine x_back (k + 1) ⟨hlt, fun y hy => ?_⟩ (by omega) (by repeat (first | exact EnvSub.nil | refine EnvSub.cons rfl (by first | rfl | (congr 1; done) | (exact congrArg (Value.int _) (by omega)) | (simp; done)) ?_)) (by repeat (first | exact MSub.nil | refine MSub.keep (by first | rfl | assumption) ?_ | refine MSub.drop ?_ | exact MSub.refl _))
      rw [List.take_add_one, hx] at hy
      rcases List.mem_append.1 hy with h | h
      · exact htm' () y h
      · simp at h; omega
    have hke : k = t.length := by omega
    subst hke
    rw [List.take_length] at htm
    have htm : Times t := htm
    clear hlt htl
    have htl := htn
    repeat (first | refine l_val rfl rfl (by first | exact pureEval_ok rfl | exact v_load rfl (by repeat (first | exact List.Mem.head _ | apply List.Mem.tail)) rfl (by rfl)  | fail) ?_ | refine l_nil ?_ | refine c_region ?_ | refine c_seq ?_ | refine x_then ?_ | refine c_dec_f rfl (by first | omega | exact fun h => h rfl  | fail) ?_ | refine c_exit ?_ | refine x_then_exit ?_ | refine x_block_same ?_  | fail)
    refine r_call rfl rfl rfl (fun W hW => h27 _ W hf hl hW) ?_
    unfold acV
    rw [h0]
    cases hacc : accU N L C us with
    | true =>
      have hc : chkU N L C = 0 ∧ 1 ≤ us.length ∧ us.length ≤ 256 := Classical.byContradiction fun hc => by rw [accU_no hc] at hacc; cases hacc
      rw [accU_is hc, Int.toNat_natCast] at hacc
      have hac := hacc
      have hne : us ≠ [] := fun h => by rw [h] at hc; simp at hc
      repeat ((fail_if_success refine c_probe (id := 20) ?_); (fail_if_success refine c_probe1 (id := 20) ?_); first | refine l_val rfl rfl (by first | exact pureEval_ok rfl  | fail) ?_ | refine l_nil ?_ | refine c_region ?_ | refine c_seq ?_ | refine x_then ?_ | refine c_false rfl ?_ | refine c_block ?_ | refine c_skip ?_  | fail)
      refine c_loop (ι := Nat) (fun k => k ≤ us.length ∧ ∀ (j : Nat) (y : Us) (x : Lk), j < k → us[j]? = some y → L[y.link.toNat]? = some x → brB C N (tf t) x y.lower = false) (fun k => [(1, .slice T t.length ct), (3, .pointer (some ⟨b0, 0, none⟩)), (78, .slice U us.length capU), (79, .int .i64 us.length), (80, .int .i64 k)])
        (fun _ => [(b0, .cells ⟨[.int .i64 N, .slice A L.length cap, .slice B C.length cab]⟩ 24 (0, 0))]) (fun k => us.length - k) 0 ⟨Nat.zero_le _, fun j y x h => by omega⟩ (by repeat (first | exact EnvSub.nil | refine EnvSub.cons rfl (by first | rfl | (congr 1; done) | (exact congrArg (Value.int _) (by omega)) | (simp; done)) ?_)) (by repeat (first | exact MSub.nil | refine MSub.keep (by first | rfl | assumption) ?_ | refine MSub.drop ?_ | exact MSub.refl _)) ?_
      rintro k ⟨hk, hno⟩
      by_cases hlt : k < us.length
      · obtain ⟨y, hy⟩ : ∃ y, us[k]? = some y := ⟨_, List.getElem?_eq_getElem hlt⟩
        obtain ⟨y1, y2⟩ := uses_in hac (List.mem_of_getElem? hy)
        obtain ⟨x, hx⟩ : ∃ x, L[y.link.toNat]? = some x := ⟨_, List.getElem?_eq_getElem (by omega)⟩
        obtain ⟨bc, oc, rfl, hcc⟩ := hAl y.link.toNat (lkE x) (by simp [hx])
        have hec := ext_of hcc
        obtain ⟨bu, ou, rfl, huu⟩ := hU k (usE y) (by simp [hy])
        have heu := ext_of huu
        have hbr : ∀ (mem : List (Nat × Obj)) (W : World), SatW w (base w) noJ mem W → _ := fun mem W hW => h28 N x y.lower mem W rfl h0 (by omega) htl htm (List.mem_of_getElem? hx) hW
        have hno' := fun (_ : Unit) => hno
        clear hno
        repeat ((fail_if_success refine c_probe (id := 22) ?_); (fail_if_success refine c_probe1 (id := 22) ?_); first | refine l_val rfl rfl (by first | exact pureEval_ok rfl | exact v_load_ext0 rfl (by assumption) rfl (by rfl) | exact v_index rfl rfl rfl rfl (by omega) (by omega) (by with_reducible first | exact idx4 _ _ _   | fail)  | fail) ?_ | refine l_nil ?_ | refine c_region ?_ | refine c_seq ?_ | refine x_then ?_ | refine r_alloc rfl rfl rfl (by first | exact aggL  | fail) (fun _ => ?_) | refine r_store rfl rfl rfl rfl rfl rfl rfl (by repeat (first | exact Upd.head | apply Upd.tail)) (by rfl) ?_ | refine c_dec_t rfl (by first | omega  | fail) ?_ | refine c_block ?_ | refine c_skip ?_  | fail)
        skip
        repeat (first | refine l_val rfl rfl (by first | exact pureEval_ok rfl | exact v_load rfl (by repeat (first | exact List.Mem.head _ | apply List.Mem.tail)) rfl (by rfl)  | fail) ?_ | refine l_nil ?_ | refine c_region ?_ | refine c_seq ?_ | refine x_then ?_ | refine c_dec_f rfl (by first | omega  | fail) ?_ | refine c_skip ?_ | refine l_dec_f rfl rfl rfl rfl rfl (by first | omega  | fail) ?_ | refine c_reads rfl (by decide +kernel) ?_ | refine q_val rfl rfl (by first | exact pureEval_ok rfl | exact v_load rfl (by repeat (first | exact List.Mem.head _ | apply List.Mem.tail)) rfl (by rfl) | exact v_load_ext0 rfl (by assumption) rfl (by rfl) | exact v_index rfl rfl rfl rfl (by omega) (by omega) (by with_reducible first | exact idx8 _ _ _   | fail)  | fail) ?_  | fail)
        refine q_call rfl rfl rfl (fun W hW => hbr _ W hW) ?_
        cases hb1 : brB C N (tf t) x y.lower with
        | true =>
          repeat (first | refine l_val rfl rfl (by first | exact pureEval_ok rfl  | fail) ?_ | refine l_nil ?_ | refine c_region ?_ | refine c_seq ?_ | refine x_then ?_ | refine c_true rfl ?_ | refine c_ret ?_ | refine x_then_ret ?_ | refine x_block_ret ?_ | refine q_nil ?_  | fail)
          exact x_ret rfl rfl (by repeat (first | exact Res.nil | (apply Res.tmp; rfl) | (apply Res.cell; rfl; exact (by repeat (first | exact List.Mem.head _ | apply List.Mem.tail)); rfl; rfl))) rfl (fun W hW => ⟨rfl, hW.below⟩)
        | false =>
          repeat (first | refine l_val rfl rfl (by first | exact v_add rfl rfl (by omega) (by omega) | exact pureEval_ok rfl  | fail) ?_ | refine l_nil ?_ | refine c_region ?_ | refine x_then ?_ | refine c_false rfl ?_ | refine c_skip ?_ | refine x_block ?_ | refine q_nil ?_  | fail)
          refine x_back (k + 1) ⟨hlt, fun j z x2 hj hz hx2 => ?_⟩ (by omega) (by repeat (first | exact EnvSub.nil | refine EnvSub.cons rfl (by first | rfl | (congr 1; done) | (exact congrArg (Value.int _) (by omega)) | (simp; done)) ?_)) (by repeat (first | exact MSub.nil | refine MSub.keep (by first | rfl | assumption) ?_ | refine MSub.drop ?_ | exact MSub.refl _))
          rcases Nat.lt_or_ge j k with h | h
          · exact hno' () j z x2 h hz hx2
          · have : j = k := by omega
            subst this
            rw [hy] at hz
            cases hz
            rw [hx] at hx2
            cases hx2
            exact hb1
      · obtain ⟨k1, y1, x1, hy1, hx1, hb⟩ := cycle_breaks hT hF hne hac (tf t)
        have hl1 := (List.getElem?_eq_some_iff.1 hy1).1
        rw [hno k1 y1 x1 (by omega) hy1 hx1] at hb
        cases hb
    | false =>
      cases hs : str N L C with
      | some t' =>
        repeat (first | refine l_val rfl rfl (by first | exact pureEval_ok rfl | exact v_load rfl (by repeat (first | exact List.Mem.head _ | apply List.Mem.tail)) rfl (by rfl)  | fail) ?_ | refine l_nil ?_ | refine c_region ?_ | refine c_seq ?_ | refine x_then ?_ | refine c_true rfl ?_  | fail)
        refine r_call (v := noV 0) rfl rfl rfl (fun W hW => (h24 _ W hf hW).mono fun e W' hq => rft_noV h0 ⟨t', hs, trivial⟩ hq) ?_
        unfold noV
        repeat (first | refine l_val rfl rfl (by first | exact pureEval_ok rfl  | fail) ?_ | refine l_nil ?_ | refine c_region ?_ | refine c_seq ?_ | refine x_then ?_ | refine c_true rfl ?_ | refine c_false rfl ?_ | refine c_skip ?_ | refine c_ret ?_ | refine x_then_ret ?_  | fail)
        exact x_ret rfl rfl (by repeat (first | exact Res.nil | (apply Res.tmp; rfl) | (apply Res.cell; rfl; exact (by repeat (first | exact List.Mem.head _ | apply List.Mem.tail)); rfl; rfl))) rfl (fun W hW => ⟨rfl, hW.below⟩)
      | none =>
        repeat (first | refine l_val rfl rfl (by first | exact pureEval_ok rfl | exact v_load rfl (by repeat (first | exact List.Mem.head _ | apply List.Mem.tail)) rfl (by rfl)  | fail) ?_ | refine l_nil ?_ | refine c_region ?_ | refine c_seq ?_ | refine x_then ?_ | refine c_true rfl ?_  | fail)
        refine r_call1 (ι := {p : List Us × Nat × Nat × List Value // p.1 ≠ [] ∧ p.1.length ≤ 64 ∧ accepts (net C (N : Int).toNat L) p.1 = true}) (v := fun p => .tuple ⟨[.slice (some ⟨p.1.2.1, 0, none⟩) p.1.1.length p.1.2.2.1, .bool true, .int .i64 0]⟩) (bk := fun p => p.1.2.1) (o := fun p => .cells ⟨flat p.1.1.length (fun j => usE (p.1.1.getD j ⟨0, false⟩)) ++ p.1.2.2.2⟩ 52 (0, 0)) rfl rfl rfl (fun W hW => (h24 _ W hf hW).mono fun e W' hq => rft_own h0 hs hq) ?_
        clear hacc hul hl h27 hU
        rintro ⟨⟨us, bs, cs, rs⟩, hne, hlu, hac⟩
        simp only at hne hlu hac ⊢
        rw [Int.toNat_natCast] at hac
        repeat ((fail_if_success refine c_probe (id := 20) ?_); (fail_if_success refine c_probe1 (id := 20) ?_); first | refine l_val rfl rfl (by first | exact pureEval_ok rfl  | fail) ?_ | refine l_nil ?_ | refine c_region ?_ | refine c_seq ?_ | refine x_then ?_ | refine c_false rfl ?_ | refine c_block ?_ | refine c_skip ?_  | fail)
        refine c_loop (ι := Nat) (fun k => k ≤ us.length ∧ ∀ (j : Nat) (y : Us) (x : Lk), j < k → us[j]? = some y → L[y.link.toNat]? = some x → brB C N (tf t) x y.lower = false) (fun k => [(1, .slice T t.length ct), (3, .pointer (some ⟨b0, 0, none⟩)), (78, .slice (some ⟨bs, 0, none⟩) us.length cs), (79, .int .i64 us.length), (80, .int .i64 k)])
          (fun _ => [(bs, .cells ⟨flat us.length (fun j => usE (us.getD j ⟨0, false⟩)) ++ rs⟩ 52 (0, 0)), (b0, .cells ⟨[.int .i64 N, .slice A L.length cap, .slice B C.length cab]⟩ 24 (0, 0))]) (fun k => us.length - k) 0 ⟨Nat.zero_le _, fun j y x h => by omega⟩ (by repeat (first | exact EnvSub.nil | refine EnvSub.cons rfl (by first | rfl | (congr 1; done) | (exact congrArg (Value.int _) (by omega)) | (simp; done)) ?_)) (by repeat (first | exact MSub.nil | refine MSub.keep (by first | rfl | assumption) ?_ | refine MSub.drop ?_ | exact MSub.refl _)) ?_
        rintro k ⟨hk, hno⟩
        by_cases hlt : k < us.length
        · obtain ⟨y, hy⟩ : ∃ y, us[k]? = some y := ⟨_, List.getElem?_eq_getElem hlt⟩
          obtain ⟨y1, y2⟩ := uses_in hac (List.mem_of_getElem? hy)
          obtain ⟨x, hx⟩ : ∃ x, L[y.link.toNat]? = some x := ⟨_, List.getElem?_eq_getElem (by omega)⟩
          obtain ⟨bc, oc, rfl, hcc⟩ := hAl y.link.toNat (lkE x) (by simp [hx])
          have hec := ext_of hcc
          have hyD : us.getD k ⟨0, false⟩ = y := by rw [List.getD_eq_getElem?_getD, hy]; rfl
          have hrow : RowAt (flat us.length (fun j => usE (us.getD j ⟨0, false⟩)) ++ rs) (k * 2) (usE y) := by
            have := rowAt_flatR (f := fun j => usE (us.getD j ⟨0, false⟩)) (sz := 2) (rest := rs) (fun _ => rfl) hlt
            rw [hyD] at this
            exact this
          have hbr : ∀ (mem : List (Nat × Obj)) (W : World), SatW w (base w) noJ mem W → _ := fun mem W hW => h28 N x y.lower mem W rfl h0 (by omega) htl htm (List.mem_of_getElem? hx) hW
          have hno' := fun (_ : Unit) => hno
          clear hno
          repeat ((fail_if_success refine c_probe (id := 22) ?_); (fail_if_success refine c_probe1 (id := 22) ?_); first | refine l_val rfl rfl (by first | exact pureEval_ok rfl | exact v_index rfl rfl rfl rfl (by omega) (by omega) (by with_reducible first | exact idx3 _ _   | fail) | exact v_load_row rfl (by repeat (first | exact List.Mem.head _ | apply List.Mem.tail)) rfl rfl (by first | exact rowAt_flatR (by first | exact fun _ => rfl  | fail) (by omega)  | fail) rfl  | fail) ?_ | refine l_nil ?_ | refine c_region ?_ | refine c_seq ?_ | refine x_then ?_ | refine r_alloc rfl rfl rfl (by first | exact aggL  | fail) (fun _ => ?_) | refine r_store rfl rfl rfl rfl rfl rfl rfl (by repeat (first | exact Upd.head | apply Upd.tail)) (by rfl) ?_ | refine c_dec_t rfl (by first | omega  | fail) ?_ | refine c_block ?_ | refine c_skip ?_  | fail)
          rw [hyD]
          repeat (first | refine l_val rfl rfl (by first | exact pureEval_ok rfl | exact v_load rfl (by repeat (first | exact List.Mem.head _ | apply List.Mem.tail)) rfl (by rfl)  | fail) ?_ | refine l_nil ?_ | refine c_region ?_ | refine c_seq ?_ | refine x_then ?_ | refine c_dec_f rfl (by first | omega  | fail) ?_ | refine c_skip ?_ | refine l_dec_f rfl rfl rfl rfl rfl (by first | omega  | fail) ?_ | refine c_reads rfl (by decide +kernel) ?_ | refine q_val rfl rfl (by first | exact pureEval_ok rfl | exact v_load rfl (by repeat (first | exact List.Mem.head _ | apply List.Mem.tail)) rfl (by rfl) | exact v_load_ext0 rfl (by assumption) rfl (by rfl) | exact v_index rfl rfl rfl rfl (by omega) (by omega) (by with_reducible first | exact idx8 _ _ _   | fail)  | fail) ?_  | fail)
          refine q_call rfl rfl rfl (fun W hW => hbr _ W hW) ?_
          cases hb1 : brB C N (tf t) x y.lower with
          | true =>
            repeat (first | refine l_val rfl rfl (by first | exact pureEval_ok rfl  | fail) ?_ | refine l_nil ?_ | refine c_region ?_ | refine c_seq ?_ | refine x_then ?_ | refine c_true rfl ?_ | refine c_ret ?_ | refine x_then_ret ?_ | refine x_block_ret ?_ | refine q_nil ?_  | fail)
            exact x_ret rfl rfl (by repeat (first | exact Res.nil | (apply Res.tmp; rfl) | (apply Res.cell; rfl; exact (by repeat (first | exact List.Mem.head _ | apply List.Mem.tail)); rfl; rfl))) rfl (fun W hW => ⟨rfl, hW.below⟩)
          | false =>
            repeat (first | refine l_val rfl rfl (by first | exact v_add rfl rfl (by omega) (by omega) | exact pureEval_ok rfl  | fail) ?_ | refine l_nil ?_ | refine c_region ?_ | refine x_then ?_ | refine c_false rfl ?_ | refine c_skip ?_ | refine x_block ?_ | refine q_nil ?_  | fail)
            refine x_back (k + 1) ⟨hlt, fun j z x2 hj hz hx2 => ?_⟩ (by omega) (by repeat (first | exact EnvSub.nil | refine EnvSub.cons rfl (by first | rfl | (congr 1; done) | (exact congrArg (Value.int _) (by omega)) | (simp; done)) ?_)) (by repeat (first | exact MSub.nil | refine MSub.keep (by first | rfl | assumption) ?_ | refine MSub.drop ?_ | exact MSub.refl _))
            rcases Nat.lt_or_ge j k with h | h
            · exact hno' () j z x2 h hz hx2
            · have : j = k := by omega
              subst this
              rw [hy] at hz
              cases hz
              rw [hx] at hx2
              cases hx2
              exact hb1
        · obtain ⟨k1, y1, x1, hy1, hx1, hb⟩ := cycle_breaks hT hF hne hac (tf t)
          have hl1 := (List.getElem?_eq_some_iff.1 hy1).1
          rw [hno k1 y1 x1 (by omega) hy1 hx1] at hb
          cases hb
end R23
end Go.Proofs

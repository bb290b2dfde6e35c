/- Uncertain networks: Play in the specification, walked. -/
import Derived.Test.YtnmbglemgkopaaaCtN
set_option linter.unusedSectionVars false
set_option linter.unusedVariables false
set_option linter.unusedSimpArgs false
namespace Go.Proofs
open Go.RowKit Go.Kin Go.Kin.St Go.Kin.Ct
open R22
namespace R23
theorem below3 {w W0 W1 W : World} {J : (Nat → Prop) → World → Prop} {mem : List (Nat × Obj)} (hs1 : SatW w (base w) J mem W0) (hb1 : Below W0.heap.size W0 W1) {D : Nat → Prop} (hs : Same D W1 W) (hD : ∀ k, k < W1.heap.size → D k) : Below w.heap.size w W := by
  have s2 : Same (base w) W0 W1 := Same.of_below_all hb1
  have s3 : Same (base w) W1 W := hs.monoLt fun k hk _ => hD k hk
  exact (hs1.same.trans (s2.trans s3)).below (Nat.le_refl _) fun _ h => h
theorem RowQ.move {l : List Int} {w W0 W1 W : World} {v : Value} (h : RowQ l W0 v W1) (hle : w.heap.size ≤ W0.heap.size) {D : Nat → Prop} (hs : Same D W1 W) (hD : ∀ k, k < W1.heap.size → D k) : RowQ l w v W := by
  rcases h with h | ⟨b, cap, rest, g1, g2, g3, g4⟩
  · exact .inl h
  · exact .inr ⟨b, cap, rest, g1, g2, by omega, hs.obj g4 (hD b (lt_of_heap g4))⟩
theorem lsumR {C : List Lk} {d : List Int} {N k : Nat} {p : Int} (hT : Tree N C) (hd : Dur C d) : -(1099511627776 * (k : Int)) ≤ lsum (tf d) ((chain C N p).reverse.take k) ∧ lsum (tf d) ((chain C N p).reverse.take k) ≤ 1099511627776 * (k : Int) := by
  have key : ∀ l : List Nat, (∀ i ∈ l, i < C.length) → -(1099511627776 * (l.length : Int)) ≤ lsum (tf d) l ∧ lsum (tf d) l ≤ 1099511627776 * (l.length : Int) := by
    intro l
    induction l with
    | nil => intro _; simp [lsum]
    | cons i l ih =>
      intro h
      have h1 := ih fun j hj => h j (List.mem_cons_of_mem _ hj)
      have h2 := tf_bd hT hd (h i List.mem_cons_self)
      simp only [lsum, List.length_cons]
      omega
  have h := key ((chain C N p).reverse.take k) (fun i hi => Tree.chain_lt i (List.mem_reverse.1 (List.mem_of_mem_take hi)))
  have hlen : ((chain C N p).reverse.take k).length ≤ k := by rw [List.length_take]; omega
  omega
set_option maxRecDepth 100000 in
set_option maxHeartbeats 40000000 in
theorem rplay_calls (u : Un) (N : Nat) (T D : Option Addr) (ct cd : Nat) (t d : List Int) (w : World) (hn : u.n = N) (hN1 : 1 ≤ N) (hN : N ≤ 64) (hA : u.In w) (hl : u.C.length ≤ 256) (hT : Tree N u.C) (hTt : Kin.At w T 1 (t.map inE)) (hDd : Kin.At w D 1 (d.map inE)) (htl : t.length = N) (hc3 : Times t) (hdur : Dur u.C d) :
    Calls Try.prog 45 ⟨[.agg ⟨u.v⟩, .slice T t.length ct, .slice D d.length cd]⟩ w fun e w' => ∃ v, e = .returned v ∧ RowQ (plL u.C N t d) w v w' ∧ Below w.heap.size w w' := by
  have hch : ∀ (p : Nat) (mem : List (Nat × Obj)) (W : World), p < N → SatW w (base w) noJ mem W → Calls Try.prog 42 ⟨[.agg ⟨u.v⟩, .int .i64 p]⟩ W fun e w' => ∃ i : Nat × Nat × List Value, e = .returned (chV u.C N p i.1 i.2.1) ∧ Below W.heap.size W w' ∧ W.heap.size ≤ i.1 ∧ w'.heap[i.1]? = some (.cells ⟨flatI (chL u.C N p) ++ i.2.2⟩ 3 (0, 0)) := fun p mem W h hW => ChainT_calls u N p W hn hN (hA.sat hW) hl hT h
  obtain ⟨n, A, cap, L, B, cab, C⟩ := u
  simp only [Un.v] at hn hl hT hdur hch ⊢
  subst hn
  refine fun_enter Try.func45 rfl Try.ntmps45 rfl rfl (satW_nil w) ?_
  repeat (first | refine l_val rfl rfl (by first | exact pureEval_ok rfl  | fail) ?_ | refine l_nil ?_ | refine c_region ?_ | refine c_seq ?_ | refine x_then ?_ | refine r_box rfl rfl rfl rfl (fun _ => ?_) | refine r_buildSlice rfl rfl rfl rfl rfl rfl (by rfl) (fun _ => ?_) | refine c_block ?_  | fail)
  rename_i b1 b0
  refine c_loop (ι := PS) (fun s => s.p ≤ N ∧ Grow 1 s.p (flatI ((plL C N t d).take s.p)) s.c s.r) (fun s => [(1, .slice T t.length ct), (2, .slice D d.length cd), (3, .pointer (some ⟨b1, 0, none⟩)), (6, .slice none 0 0), (7, .slice (some ⟨s.b, 0, none⟩) s.p s.c), (8, .int .i64 s.p)])
    (fun s => [(s.b, .cells ⟨flatI ((plL C N t d).take s.p) ++ s.r⟩ 3 (0, 0)), (b1, .cells ⟨[.int .i64 N, .slice A L.length cap, .slice B C.length cab]⟩ 24 (0, 0))]) (fun s => N - s.p) ⟨0, b0, 0, []⟩ ⟨Nat.zero_le _, ⟨rfl, rfl, Nat.le_refl _, (show (0 : Nat) ≤ maxLen by decide)⟩⟩ (by repeat (first | exact EnvSub.nil | refine EnvSub.cons rfl (by first | rfl | (congr 1; done) | (exact congrArg (Value.int _) (by omega)) | (simp; done)) ?_)) (by repeat (first | exact MSub.nil | refine MSub.keep (by first | rfl | assumption) ?_ | refine MSub.drop ?_ | exact MSub.refl _)) ?_
  rintro ⟨p, b, c, r⟩ ⟨hp, hgr⟩
  simp only at hp hgr ⊢
  by_cases hlt : p < N
  · obtain ⟨rt, r1, r2, -⟩ := hT.root_in hlt
    obtain ⟨tv, htv⟩ : ∃ v, t[rt]? = some v := ⟨_, List.getElem?_eq_getElem (by omega)⟩
    obtain ⟨bt, ot, rfl, hct⟩ := hTt rt (inE tv) (by simp [htv])
    have het := ext_of hct
    rw [Nat.mul_one] at het
    have htb := hc3 tv (List.mem_of_getElem? htv)
    have hclen : (chain C N p).length ≤ 64 := by have := climb_len C N p; unfold chain; omega
    have hlA := chL_len (C := C) (N := N) (p := p)
    have hval : tv + lsum (tf d) (chain C N p) = at_ C N (tf t) (tf d) p := by
      unfold at_
      rw [r2, Int.toNat_natCast, tf_get htv]
    have hnx := plL_take (C := C) (N := N) (t := t) (d := d) hlt
    repeat (first | refine l_val rfl rfl (by first | exact pureEval_ok rfl | exact v_load rfl (by repeat (first | exact List.Mem.head _ | apply List.Mem.tail)) rfl (by rfl)  | fail) ?_ | refine l_nil ?_ | refine c_region ?_ | refine c_seq ?_ | refine x_then ?_ | refine c_dec_t rfl (by first | omega  | fail) ?_ | refine c_block ?_ | refine c_skip ?_  | fail)
    refine r_call1 (ι := Nat × Nat × List Value) (v := fun i => chV C N p i.1 i.2.1) (bk := fun i => i.1) (o := fun i => .cells ⟨flatI (chL C N p) ++ i.2.2⟩ 3 (0, 0)) rfl rfl rfl (fun W hW => hch p _ W hlt hW) ?_
    rintro ⟨ba, ca, ra⟩
    unfold chV
    rw [r2]
    simp only
    have h00 : tv + lsum (tf d) ((chain C N p).reverse.take 0) = tv := by show tv + 0 = tv; omega
    repeat (first | refine l_val rfl rfl (by first | exact pureEval_ok rfl | exact v_load_ext0 rfl (by assumption) rfl (by rfl) | exact v_index rfl rfl rfl rfl (by omega) (by omega) (by with_reducible first | exact idx2 _ _   | fail)  | fail) ?_ | refine l_nil ?_ | refine c_region ?_ | refine c_seq ?_ | refine x_then ?_ | refine c_block ?_  | fail)
    refine c_loop (ι := Nat) (fun k => k ≤ (chL C N p).length) (fun k => [(1, .slice (some ⟨bt, ot, none⟩) t.length ct), (2, .slice D d.length cd), (3, .pointer (some ⟨b1, 0, none⟩)), (6, .slice none 0 0), (7, .slice (some ⟨b, 0, none⟩) p c), (8, .int .i64 p), (9, .slice (some ⟨ba, 0, none⟩) (chL C N p).length ca), (12, .int .i64 (tv + lsum (tf d) ((chain C N p).reverse.take k))), (13, .int .i64 k)])
      (fun _ => [(ba, .cells ⟨flatI (chL C N p) ++ ra⟩ 3 (0, 0)), (b, .cells ⟨flatI ((plL C N t d).take p) ++ r⟩ 3 (0, 0)), (b1, .cells ⟨[.int .i64 N, .slice A L.length cap, .slice B C.length cab]⟩ 24 (0, 0))]) (fun k => (chL C N p).length - k) 0 (Nat.zero_le _) (by simp only [h00]; exact (by repeat (first | exact EnvSub.nil | refine EnvSub.cons rfl (by first | rfl | (congr 1; done) | (exact congrArg (Value.int _) (by omega)) | (simp; done)) ?_))) (MSub.refl _) ?_
    intro k hk
    have hsb := lsumR (k := k) (p := p) hT hdur
    by_cases hlt2 : k < (chL C N p).length
    · obtain ⟨i, hi⟩ : ∃ i, (chain C N p).reverse[k]? = some i := ⟨_, List.getElem?_eq_getElem (by rw [List.length_reverse]; omega)⟩
      have him := List.mem_of_getElem? hi
      have hgt : (flatI (chL C N p) ++ ra)[k]? = some (.int .i64 (i : Int)) := flatI_get (chL_get hi)
      have hic := Tree.chain_lt i (List.mem_reverse.1 him)
      have hdl := hdur.1
      obtain ⟨y, hy⟩ : ∃ y, d[i]? = some y := ⟨_, List.getElem?_eq_getElem (by omega)⟩
      obtain ⟨bd, od, rfl, hcd⟩ := hDd i (inE y) (by simp [hy])
      have hed := ext_of hcd
      rw [Nat.mul_one] at hed
      have hyb := tf_bd hT hdur hic
      rw [tf_get hy] at hyb
      have hsum : tv + lsum (tf d) ((chain C N p).reverse.take (k + 1)) = tv + lsum (tf d) ((chain C N p).reverse.take k) + y := by
        rw [lsum_take hi, tf_get hy]
        omega
      repeat (first | refine l_val rfl rfl (by first | exact v_add rfl rfl (by omega) (by omega) | exact pureEval_ok rfl | exact v_load_ext0 rfl (by assumption) rfl (by rfl) | exact v_index rfl rfl rfl rfl (by omega) (by omega) (by with_reducible first | exact idx1 _  | exact idx2 _ _   | fail) | exact v_load_at rfl (by repeat (first | exact List.Mem.head _ | apply List.Mem.tail)) rfl rfl (by first | assumption  | fail)  | fail) ?_ | refine l_nil ?_ | refine c_region ?_ | refine c_seq ?_ | refine x_then ?_ | refine c_dec_t rfl (by first | omega  | fail) ?_ | refine c_block ?_ | refine c_skip ?_ | refine x_block ?_  | fail)
      exact x_back (k + 1) hlt2 (by omega) (by repeat (first | exact EnvSub.nil | refine EnvSub.cons rfl (by first | rfl | (congr 1; done) | (exact congrArg (Value.int _) (by omega)) | (simp; done)) ?_)) (MSub.refl _)
    have hke : k = (chain C N p).reverse.length := by rw [List.length_reverse]; omega
    subst hke
    rw [List.take_length, lsum_rev, hval]
    repeat (first | refine l_val rfl rfl (by first | exact pureEval_ok rfl  | fail) ?_ | refine l_nil ?_ | refine c_region ?_ | refine c_seq ?_ | refine x_then ?_ | refine r_buildSlice rfl rfl rfl rfl rfl rfl (by rfl) (fun _ => ?_) | refine c_dec_f rfl (by first | omega  | fail) ?_ | refine c_exit ?_ | refine x_then_exit ?_ | refine x_block_same ?_  | fail)
    refine r_append (n := p) (xs := flatI ((plL C N t d).take p)) (rest := r) (m := 1) (ys := [.int .i64 (at_ C N (tf t) (tf d) p)]) rfl rfl rfl rfl rfl rfl (news_own (by repeat (first | exact List.Mem.head _ | apply List.Mem.tail))) (by repeat (first | exact Rem.head | apply Rem.tail)) hgr rfl rfl (by decide) (by omega) (by unfold maxLen; omega) (fun b7 c7 r7 hg7 => ?_)
    have e1 : flatI ((plL C N t d).take p) ++ [Value.int .i64 (at_ C N (tf t) (tf d) p)] = flatI ((plL C N t d).take (p + 1)) := by rw [hnx, flatI_snoc]
    rw [e1] at hg7 ⊢
    repeat (first | refine l_val rfl rfl (by first | exact v_add rfl rfl (by omega) (by omega) | exact pureEval_ok rfl  | fail) ?_ | refine l_nil ?_ | refine c_region ?_ | refine x_then ?_ | refine x_block ?_  | fail)
    exact x_back ⟨p + 1, b7, c7, r7⟩ ⟨hlt, hg7⟩ (by simp only; omega) (by repeat (first | exact EnvSub.nil | refine EnvSub.cons rfl (by first | rfl | (congr 1; done) | (exact congrArg (Value.int _) (by omega)) | (simp; done)) ?_)) (by repeat (first | exact MSub.nil | refine MSub.keep (by first | rfl | assumption) ?_ | refine MSub.drop ?_ | exact MSub.refl _))
  · have hpe : p = N := by omega
    subst hpe
    rw [List.take_of_length_le (by rw [plL_len]; omega)] at hgr ⊢
    repeat (first | refine l_val rfl rfl (by first | exact pureEval_ok rfl | exact v_load rfl (by repeat (first | exact List.Mem.head _ | apply List.Mem.tail)) rfl (by rfl)  | fail) ?_ | refine l_nil ?_ | refine c_region ?_ | refine c_seq ?_ | refine x_then ?_ | refine c_dec_f rfl (by first | omega  | fail) ?_ | refine c_ret ?_ | refine c_exit ?_ | refine x_then_exit ?_ | refine x_block_same ?_  | fail)
    exact x_ret rfl rfl (by repeat (first | exact Res.nil | (apply Res.tmp; rfl) | (apply Res.cell; rfl; exact (by repeat (first | exact List.Mem.head _ | apply List.Mem.tail)); rfl; rfl))) rfl (fun W hW => ⟨_, rfl, .inr ⟨b, c, r, by rw [plL_len], by rw [plL_len]; exact hgr, Nat.le_of_not_lt (hW.own (b, _) (by repeat (first | exact List.Mem.head _ | apply List.Mem.tail))).1, (hW.own (b, _) (by repeat (first | exact List.Mem.head _ | apply List.Mem.tail))).2⟩, hW.below⟩)
set_option maxRecDepth 100000 in
set_option maxHeartbeats 40000000 in
theorem rPlay_calls (u : Un) (T D : Option Addr) (ct cd : Nat) (t d : List Int) (w : World) (hA : u.In w) (hl : u.L.length ≤ 1000) (hc : u.C.length ≤ 1000) (hTt : Kin.At w T 1 (t.map inE)) (hDd : Kin.At w D 1 (d.map inE)) (htl : t.length ≤ 9223372036854775807) (hdl : d.length ≤ 9223372036854775807) :
    Calls Try.prog 20 ⟨[.agg ⟨u.v⟩, .slice T t.length ct, .slice D d.length cd]⟩ w (PlayQ u.n u.L u.C t d w) := by
  have hck : ∀ (mem : List (Nat × Obj)) (W : World), SatW w (base w) noJ mem W → Calls Try.prog 17 ⟨[.agg ⟨u.v⟩]⟩ W fun e w' => e = .returned (.int .i64 (chkU u.n u.L u.C)) ∧ Below W.heap.size W w' := fun mem W hW => rCheckU_calls u W (hA.sat hW) hl hc
  have hpl : ∀ (N : Nat) (mem : List (Nat × Obj)) (W : World), u.n = N → chkU u.n u.L u.C = 0 → t.length = N → Times t → Dur u.C d → SatW w (base w) noJ mem W → Calls Try.prog 45 ⟨[.agg ⟨u.v⟩, .slice T t.length ct, .slice D d.length cd]⟩ W fun e w' => ∃ v, e = .returned v ∧ RowQ (plL u.C N t d) W v w' ∧ Below W.heap.size W w' := fun N mem W hn h0 h1 h2 h3 hW => by
    obtain ⟨n1, n2, l1, l2, hF, hT⟩ := chkU_ok h0
    rw [hn] at hF n1 n2 hT
    rw [Int.toNat_natCast] at hT
    exact rplay_calls u N T D ct cd t d W hn (by omega) (by omega) (hA.sat hW) (by omega) hT (hTt.sat hW) (hDd.sat hW) h1 h2 h3
  have hB := hA.c
  obtain ⟨n, A, cap, L, B, cab, C⟩ := u
  simp only [Un.v] at hl hc hck hpl hB ⊢
  refine fun_enter Try.func20 rfl Try.ntmps20 rfl rfl (satW_nil w) ?_
  repeat (first | refine l_val rfl rfl (by first | exact pureEval_ok rfl | exact v_load rfl (by repeat (first | exact List.Mem.head _ | apply List.Mem.tail)) rfl (by rfl)  | fail) ?_ | refine l_nil ?_ | refine c_region ?_ | refine c_seq ?_ | refine x_then ?_ | refine r_box rfl rfl rfl rfl (fun _ => ?_)  | fail)
  rename_i b1
  refine r_call rfl rfl rfl (fun W hW => hck _ W hW) ?_
  by_cases h0 : chkU n L C = 0
  rotate_left
  · obtain ⟨p1, p2⟩ := plE_chk (t := t) (d := d) h0
    repeat (first | refine l_val rfl rfl (by first | exact pureEval_ok rfl  | fail) ?_ | refine l_nil ?_ | refine c_region ?_ | refine c_seq ?_ | refine x_then ?_ | refine c_dec_t rfl (by first | omega  | fail) ?_ | refine c_ret ?_ | refine x_then_ret ?_  | fail)
    exact x_ret rfl rfl (by repeat (first | exact Res.nil | (apply Res.tmp; rfl) | (apply Res.cell; rfl; exact (by repeat (first | exact List.Mem.head _ | apply List.Mem.tail)); rfl; rfl))) rfl (fun W hW => ⟨.slice none 0 0, by rw [p1], by rw [p2]; exact RowQ.nil, hW.below⟩)
  obtain ⟨n1, n2, l1, l2, hF, hT⟩ := chkU_ok h0
  obtain ⟨N, rfl⟩ : ∃ N : Nat, n = N := ⟨n.toNat, by omega⟩
  have hfin : ¬ (t.length = (N : Int) ∧ Times t ∧ Dur C d) → plE N L C t d = 1 ∧ plR N L C t d = [] := fun h => plE_arg h0 h
  have hfinOK : (t.length = (N : Int) ∧ Times t ∧ Dur C d) → plE N L C t d = 0 ∧ plR N L C t d = plL C N t d := fun h => by
    have := plE_ok (n := N) (L := L) (C := C) (t := t) (d := d) ⟨h0, h⟩
    rw [Int.toNat_natCast] at this
    exact this
  have h0' := h0
  rw [h0']
  clear h0'
  by_cases c1 : t.length = N
  rotate_left
  · obtain ⟨p1, p2⟩ := hfin (fun h => c1 (by omega))
    repeat (first | refine l_val rfl rfl (by first | exact pureEval_ok rfl | exact v_load rfl (by repeat (first | exact List.Mem.head _ | apply List.Mem.tail)) rfl (by rfl)  | fail) ?_ | refine l_nil ?_ | refine c_region ?_ | refine c_seq ?_ | refine x_then ?_ | refine l_skip rfl rfl ?_ | refine c_true rfl ?_ | refine c_false rfl ?_ | refine c_skip ?_ | refine c_ret ?_ | refine x_then_ret ?_ | refine l_dec_t rfl rfl rfl rfl rfl (by first | omega  | fail) ?_  | fail)
    exact x_ret rfl rfl (by repeat (first | exact Res.nil | (apply Res.tmp; rfl) | (apply Res.cell; rfl; exact (by repeat (first | exact List.Mem.head _ | apply List.Mem.tail)); rfl; rfl))) rfl (fun W hW => ⟨.slice none 0 0, by rw [p1], by rw [p2]; exact RowQ.nil, hW.below⟩)
  by_cases c2 : d.length = C.length
  rotate_left
  · obtain ⟨p1, p2⟩ := hfin (fun h => c2 h.2.2.1)
    repeat (first | refine l_val rfl rfl (by first | exact pureEval_ok rfl | exact v_load rfl (by repeat (first | exact List.Mem.head _ | apply List.Mem.tail)) rfl (by rfl)  | fail) ?_ | refine l_nil ?_ | refine c_region ?_ | refine c_seq ?_ | refine x_then ?_ | refine c_false rfl ?_ | refine c_dec_t rfl (by first | omega  | fail) ?_ | refine c_skip ?_ | refine c_ret ?_ | refine x_then_ret ?_ | refine l_dec_f rfl rfl rfl rfl rfl (by first | omega  | fail) ?_  | fail)
    exact x_ret rfl rfl (by repeat (first | exact Res.nil | (apply Res.tmp; rfl) | (apply Res.cell; rfl; exact (by repeat (first | exact List.Mem.head _ | apply List.Mem.tail)); rfl; rfl))) rfl (fun W hW => ⟨.slice none 0 0, by rw [p1], by rw [p2]; exact RowQ.nil, hW.below⟩)
  repeat (first | refine l_val rfl rfl (by first | exact pureEval_ok rfl | exact v_load rfl (by repeat (first | exact List.Mem.head _ | apply List.Mem.tail)) rfl (by rfl)  | fail) ?_ | refine l_nil ?_ | refine c_region ?_ | refine c_seq ?_ | refine x_then ?_ | refine c_false rfl ?_ | refine c_dec_f rfl (by first | omega | exact fun h => h rfl  | fail) ?_ | refine c_block ?_ | refine c_skip ?_ | refine l_dec_f rfl rfl rfl rfl rfl (by first | omega  | fail) ?_  | fail)
  refine c_loop (ι := Nat) (fun k => k ≤ t.length ∧ Times (t.take k)) (fun k => [(1, .slice T t.length ct), (2, .slice D d.length cd), (3, .pointer (some ⟨b1, 0, none⟩)), (6, .slice none 0 0), (7, .int .i64 0), (9, .int .i64 k)])
    (fun _ => [(b1, .cells ⟨[.int .i64 N, .slice A L.length cap, .slice B C.length cab]⟩ 24 (0, 0))]) (fun k => t.length - k) 0 ⟨Nat.zero_le _, fun x hx => by simp at hx⟩ (by repeat (first | exact EnvSub.nil | refine EnvSub.cons rfl (by first | rfl | (congr 1; done) | (exact congrArg (Value.int _) (by omega)) | (simp; done)) ?_)) (by repeat (first | exact MSub.nil | refine MSub.keep (by first | rfl | assumption) ?_ | refine MSub.drop ?_ | exact MSub.refl _)) ?_
  rintro k ⟨hk, hti⟩
  by_cases hlt : k < t.length
  · obtain ⟨y, hy⟩ : ∃ y, t[k]? = some y := ⟨_, List.getElem?_eq_getElem hlt⟩
    obtain ⟨bt, ot, rfl, hct⟩ := hTt k (inE y) (by simp [hy])
    have het := ext_of hct
    rw [Nat.mul_one] at het
    by_cases hg : 0 ≤ y ∧ y ≤ 1125899906842624
    · repeat (first | refine l_val rfl rfl (by first | exact v_add rfl rfl (by omega) (by omega) | exact pureEval_ok rfl | exact v_load_ext0 rfl (by assumption) rfl (by rfl) | exact v_index rfl rfl rfl rfl (by omega) (by omega) (by with_reducible first | exact idx2 _ _   | fail)  | fail) ?_ | refine l_nil ?_ | refine c_region ?_ | refine c_seq ?_ | refine x_then ?_ | refine c_dec_t rfl (by first | omega  | fail) ?_ | refine c_dec_f rfl (by first | omega | exact fun h => h rfl  | fail) ?_ | refine c_block ?_ | refine c_skip ?_ | refine x_block ?_ | refine l_dec_f rfl rfl rfl rfl rfl (by first | omega  | fail) ?_  | fail)
      refine x_back (k + 1) ⟨hlt, fun z hz => ?_⟩ (by omega) (by repeat (first | exact EnvSub.nil | refine EnvSub.cons rfl (by first | rfl | (congr 1; done) | (exact congrArg (Value.int _) (by omega)) | (simp; done)) ?_)) (by repeat (first | exact MSub.nil | refine MSub.keep (by first | rfl | assumption) ?_ | refine MSub.drop ?_ | exact MSub.refl _))
      rw [List.take_add_one, hy] at hz
      rcases List.mem_append.1 hz with h | h
      · exact hti z h
      · simp only [Option.toList_some, List.mem_singleton] at h
        rw [h]; exact hg
    · obtain ⟨p1, p2⟩ := hfin (fun h => hg (h.2.1 y (List.mem_of_getElem? hy)))
      repeat' (first | refine l_val rfl rfl (by first | exact pureEval_ok rfl | exact v_load_ext0 rfl (by assumption) rfl (by rfl) | exact v_index rfl rfl rfl rfl (by omega) (by omega) (by with_reducible first | exact idx2 _ _   | fail)  | fail) ?_ | refine l_nil ?_ | refine c_region ?_ | refine c_seq ?_ | refine x_then ?_ | refine l_skip rfl rfl ?_ | refine c_true rfl ?_ | refine c_dec_t rfl (by first | omega  | fail) ?_ | refine c_block ?_ | refine c_skip ?_ | refine c_ret ?_ | refine x_then_ret ?_ | refine x_block_ret ?_ | refine l_dec rfl rfl rfl rfl rfl (fun _ => ?_) (fun _ => ?_)  | fail)
      all_goals first
        | exact x_ret rfl rfl (by repeat (first | exact Res.nil | (apply Res.tmp; rfl) | (apply Res.cell; rfl; exact (by repeat (first | exact List.Mem.head _ | apply List.Mem.tail)); rfl; rfl))) rfl (fun W hW => ⟨.slice none 0 0, by rw [p1], by rw [p2]; exact RowQ.nil, hW.below⟩)
        | exact absurd (show 0 ≤ y ∧ y ≤ 1125899906842624 by omega) hg
  have hke : k = t.length := by omega
  subst hke
  rw [List.take_length] at hti
  clear hk hlt
  repeat (first | refine l_val rfl rfl (by first | exact pureEval_ok rfl  | fail) ?_ | refine l_nil ?_ | refine c_region ?_ | refine c_seq ?_ | refine x_then ?_ | refine c_dec_f rfl (by first | omega | exact fun h => h rfl  | fail) ?_ | refine c_block ?_ | refine c_exit ?_ | refine x_then_exit ?_ | refine x_block_same ?_  | fail)
  refine c_loop (ι := Nat) (fun k => k ≤ d.length ∧ ∀ (i : Nat) (x : Lk) (y : Int), i < k → C[i]? = some x → d[i]? = some y → x.lo ≤ y ∧ y ≤ x.hi) (fun k => [(1, .slice T t.length ct), (2, .slice D d.length cd), (3, .pointer (some ⟨b1, 0, none⟩)), (6, .slice none 0 0), (7, .int .i64 0), (10, .int .i64 k)])
    (fun _ => [(b1, .cells ⟨[.int .i64 N, .slice A L.length cap, .slice B C.length cab]⟩ 24 (0, 0))]) (fun k => d.length - k) 0 ⟨Nat.zero_le _, fun i x y h => by omega⟩ (by repeat (first | exact EnvSub.nil | refine EnvSub.cons rfl (by first | rfl | (congr 1; done) | (exact congrArg (Value.int _) (by omega)) | (simp; done)) ?_)) (by repeat (first | exact MSub.nil | refine MSub.keep (by first | rfl | assumption) ?_ | refine MSub.drop ?_ | exact MSub.refl _)) ?_
  rintro k ⟨hk, hdr⟩
  by_cases hlt : k < d.length
  · obtain ⟨y, hy⟩ : ∃ y, d[k]? = some y := ⟨_, List.getElem?_eq_getElem hlt⟩
    obtain ⟨x, hx⟩ : ∃ x, C[k]? = some x := ⟨_, List.getElem?_eq_getElem (by omega)⟩
    obtain ⟨bd, od, rfl, hcd⟩ := hDd k (inE y) (by simp [hy])
    have hed := ext_of hcd
    rw [Nat.mul_one] at hed
    obtain ⟨bc, oc, rfl, hcc⟩ := hB k (lkE x) (by simp [hx])
    have hec := ext_of hcc
    by_cases hg : x.lo ≤ y ∧ y ≤ x.hi
    · repeat (first | refine l_val rfl rfl (by first | exact v_add rfl rfl (by omega) (by omega) | exact pureEval_ok rfl  | fail) ?_ | refine l_nil ?_ | refine c_region ?_ | refine c_seq ?_ | refine x_then ?_ | refine c_dec_t rfl (by first | omega  | fail) ?_ | refine c_dec_f rfl (by first | omega | exact fun h => h rfl  | fail) ?_ | refine c_block ?_ | refine c_skip ?_ | refine x_block ?_ | refine c_reads rfl (by decide +kernel) ?_ | refine q_val rfl rfl (by first | exact pureEval_ok rfl | exact v_load rfl (by repeat (first | exact List.Mem.head _ | apply List.Mem.tail)) rfl (by rfl) | exact v_load_ext0 rfl (by assumption) rfl (by rfl) | exact v_load_ext rfl (by assumption) rfl (by rfl) | exact v_index rfl rfl rfl rfl (by omega) (by omega) (by with_reducible first | exact idx2 _ _  | exact idx4 _ _ _   | fail)  | fail) ?_ | refine q_nil ?_ | refine q_dec_f rfl rfl rfl rfl (by first | omega  | fail) ?_  | fail)
      refine x_back (k + 1) ⟨hlt, fun i x' y' hi hx' hy' => ?_⟩ (by omega) (by repeat (first | exact EnvSub.nil | refine EnvSub.cons rfl (by first | rfl | (congr 1; done) | (exact congrArg (Value.int _) (by omega)) | (simp; done)) ?_)) (by repeat (first | exact MSub.nil | refine MSub.keep (by first | rfl | assumption) ?_ | refine MSub.drop ?_ | exact MSub.refl _))
      by_cases e : i = k
      · subst e
        rw [hx] at hx'; rw [hy] at hy'
        cases hx'; cases hy'
        exact hg
      · exact hdr i x' y' (by omega) hx' hy'
    · obtain ⟨p1, p2⟩ := hfin (fun h => hg (h.2.2.at hx hy))
      repeat' (first | refine l_val rfl rfl (by first | exact pureEval_ok rfl  | fail) ?_ | refine l_nil ?_ | refine c_region ?_ | refine c_seq ?_ | refine x_then ?_ | refine c_true rfl ?_ | refine c_dec_t rfl (by first | omega  | fail) ?_ | refine c_block ?_ | refine c_skip ?_ | refine c_ret ?_ | refine x_then_ret ?_ | refine x_block_ret ?_ | refine c_reads rfl (by decide +kernel) ?_ | refine q_val rfl rfl (by first | exact pureEval_ok rfl | exact v_load rfl (by repeat (first | exact List.Mem.head _ | apply List.Mem.tail)) rfl (by rfl) | exact v_load_ext0 rfl (by assumption) rfl (by rfl) | exact v_load_ext rfl (by assumption) rfl (by rfl) | exact v_index rfl rfl rfl rfl (by omega) (by omega) (by with_reducible first | exact idx2 _ _  | exact idx4 _ _ _   | fail)  | fail) ?_ | refine q_nil ?_ | refine q_skip rfl rfl ?_ | refine q_dec rfl rfl rfl rfl (fun _ => ?_) (fun _ => ?_)  | fail)
      all_goals first
        | exact x_ret rfl rfl (by repeat (first | exact Res.nil | (apply Res.tmp; rfl) | (apply Res.cell; rfl; exact (by repeat (first | exact List.Mem.head _ | apply List.Mem.tail)); rfl; rfl))) rfl (fun W hW => ⟨.slice none 0 0, by rw [p1], by rw [p2]; exact RowQ.nil, hW.below⟩)
        | exact absurd (show x.lo ≤ y ∧ y ≤ x.hi by omega) hg
  have hke : k = d.length := by omega
  subst hke
  have hdur : Dur C d := Dur.of c2 fun i x y h1 h2 => hdr i x y (List.getElem?_eq_some_iff.1 h2).1 h1 h2
  obtain ⟨p1, p2⟩ := hfinOK ⟨by omega, hti, hdur⟩
  clear hk hlt hdr hfin hfinOK
  repeat (first | refine l_val rfl rfl (by first | exact pureEval_ok rfl | exact v_load rfl (by repeat (first | exact List.Mem.head _ | apply List.Mem.tail)) rfl (by rfl)  | fail) ?_ | refine l_nil ?_ | refine c_region ?_ | refine c_seq ?_ | refine x_then ?_ | refine c_dec_f rfl (by first | omega | exact fun h => h rfl  | fail) ?_ | refine c_exit ?_ | refine x_then_exit ?_ | refine x_block_same ?_  | fail)
  refine l_callF (ι := Value) (mem' := []) (v := fun v => v) (fun v W W' => RowQ (plL C N t d) W v W') rfl rfl rfl MSub.nil (fun W hW => (hpl N _ W rfl h0 c1 hti hdur hW).mono fun e W' ⟨v, g1, g2, g3⟩ => ⟨v, g1, g3, g2⟩) (fun v W0 W1 hs1 hb1 hs2 hq => ?_)
  repeat (first | refine l_val rfl rfl (by first | exact pureEval_ok rfl  | fail) ?_ | refine l_nil ?_ | refine x_then ?_ | refine c_ret ?_  | fail)
  exact x_ret rfl rfl (by repeat (first | exact Res.nil | (apply Res.tmp; rfl) | (apply Res.cell; rfl; exact (by repeat (first | exact List.Mem.head _ | apply List.Mem.tail)); rfl; rfl))) rfl (fun W hW => ⟨v, by rw [p1], by rw [p2]; exact hq.move hs1.same.size hW.same (fun k hk => ⟨hk, List.not_mem_nil⟩), below3 hs1 hb1 hW.same (fun k hk => ⟨hk, List.not_mem_nil⟩)⟩)
end R23
end Go.Proofs

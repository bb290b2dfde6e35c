/- Uncertain networks: breaks, of the law: durations at the ends of their ranges with which a side of a link is broken. -/
import Derived.Test.YtnmbglemgkopaaaCtCh
import Derived.Test.YtnmbglemgkopaaaCtW
import Derived.Test.YtnmbglemgkopaaaCtN
set_option linter.unusedSectionVars false
set_option linter.unusedVariables false
set_option linter.unusedSimpArgs false
namespace Go.Proofs
open Go.RowKit Go.Kin Go.Kin.St Go.Kin.Ct
open R22 (lkE)
namespace R23
/-- the durations that break it, as a list -/
def wL (C : List Lk) (N : Nat) (p q : Int) : List Int := (List.range C.length).map (worst C N p q)
theorem wL_len {C : List Lk} {N : Nat} {p q : Int} : (wL C N p q).length = C.length := by unfold wL; simp
theorem wL_get {C : List Lk} {N i : Nat} {p q : Int} (h : i < C.length) : (wL C N p q)[i]? = some (worst C N p q i) := by unfold wL; rw [List.getElem?_map, List.getElem?_range h]; rfl
theorem wL_take {C : List Lk} {N k : Nat} {p q : Int} (h : k < C.length) : (wL C N p q).take (k + 1) = (wL C N p q).take k ++ [worst C N p q k] := by
  rw [List.take_add_one, wL_get h]; rfl
theorem wL_dur {C : List Lk} {N : Nat} (hT : Tree N C) (p q : Int) : Dur C (wL C N p q) := ⟨wL_len, fun i hi => by
  rw [tf_get (wL_get hi)]
  exact worst_durs hT p q i hi⟩
theorem lsum_congr {f g : Nat → Int} : ∀ {l : List Nat}, (∀ i ∈ l, f i = g i) → lsum f l = lsum g l
  | [], _ => rfl
  | i :: l, h => by simp only [lsum]; rw [h i List.mem_cons_self, lsum_congr fun j hj => h j (List.mem_cons_of_mem _ hj)]
theorem at_wL {C : List Lk} {N : Nat} {t : Nat → Int} {p q r : Int} : at_ C N t (tf (wL C N p q)) r = at_ C N t (worst C N p q) r := by
  unfold at_
  rw [lsum_congr (g := worst C N p q) fun i hi => tf_get (wL_get (Tree.chain_lt i hi))]
/-- is that side broken? -/
def brB (C : List Lk) (N : Nat) (t : Nat → Int) (x : Lk) (u : Bool) : Bool := decide (sideW u x < at_ C N t (worst C N (sideP u x) (sideQ u x)) (sideQ u x) - at_ C N t (worst C N (sideP u x) (sideQ u x)) (sideP u x))
structure BrS where
  k : Nat
  b : Nat
  c : Nat
  r : List Value
theorem plSl_at {l : List Int} {k b c : Nat} {r : List Value} (hk : l.length = k) : ∃ A' c', plSl k b c = .slice A' l.length c' ∧ ∀ {w0 : World} {D : Nat → Prop} {J : (Nat → Prop) → World → Prop} {mem : List (Nat × Obj)} {W : World}, SatW w0 D J mem W → (∀ p ∈ plM l k b r, p ∈ mem) → Kin.At W A' 1 (l.map inE) := by
  cases k with
  | zero =>
    have : l = [] := List.length_eq_zero_iff.1 hk
    subst this
    exact ⟨none, 0, rfl, fun _ _ => at_nil0 _⟩
  | succ k =>
    refine ⟨some ⟨b, 0, none⟩, c, by rw [hk]; rfl, fun hW h => ?_⟩
    refine SatW.rows (b := b) (rest := r) (rows := l.map inE) hW (h _ List.mem_cons_self) ?_ (in_len _)
    rw [List.take_of_length_le (by omega)]
    rfl
set_option maxRecDepth 100000 in
set_option maxHeartbeats 40000000 in
theorem breaks_calls (u : Un) (N : Nat) (T : Option Addr) (ct : Nat) (t : List Int) (x : Lk) (lw : Bool) (w : World) (hn : u.n = N) (hA : u.In w) (h0 : chkU u.n u.L u.C = 0) (hl : u.L.length ≤ 1000) (hTt : Kin.At w T 1 (t.map inE)) (htl : t.length = N) (ht : Times t) (hx : x ∈ u.L) :
    Calls Try.prog 28 ⟨[.agg ⟨u.v⟩, .slice T t.length ct, .agg ⟨lkE x⟩, .bool lw]⟩ w fun e w' => e = .returned (.bool (brB u.C N (tf t) x lw)) ∧ Below w.heap.size w w' := by
  obtain ⟨n1, n2, l1, l2, hF, hT⟩ := chkU_ok h0
  rw [hn] at hF
  rw [show u.n.toNat = N by omega] at hT
  have hch : ∀ (p : Nat) (mem : List (Nat × Obj)) (W : World), p < N → SatW w (base w) noJ mem W → Calls Try.prog 53 ⟨[.agg ⟨u.v⟩, .int .i64 p]⟩ W fun e w' => ∃ b, e = .returned (.map (some b)) ∧ Below W.heap.size W w' ∧ W.heap.size ≤ b ∧ w'.heap[b]? = some (setO (chain u.C N p)) := fun p mem W hp hW => chainM_calls u N p W hn (by omega) (hA.sat hW) l2 hT hp
  have hpl : ∀ (A : Option Addr) (ca : Nat) (d : List Int) (mem : List (Nat × Obj)) (W : World), d.length ≤ 1000 → Kin.At W A 1 (d.map inE) → SatW w (base w) noJ mem W → Calls Try.prog 19 ⟨[.agg ⟨u.v⟩, .slice T t.length ct, .slice A d.length ca]⟩ W (PlayQ u.n u.L u.C t d W) := fun A ca d mem W hd hdA hW => Play_calls u T A ct ca t d W (hA.sat hW) hl (hTt.sat hW) hdA (by omega) (by omega)
  obtain ⟨p, q, hp, hq, hpe, hqe⟩ := side_in hF hx lw
  have hsw := side_wt hF hx lw
  have hC := hA.c
  obtain ⟨n, A, cap, L, B, cab, C⟩ := u
  obtain ⟨fr, to, lo, hi⟩ := x
  simp only [Un.v, lkE] at hn h0 n1 n2 l2 hT hch hpl hC ⊢
  subst hn
  have hOK : PlayOK N L C t (wL C N p q) := ⟨h0, by omega, ht, wL_dur hT p q⟩
  have hap : 0 ≤ at_ C N (tf t) (tf (wL C N p q)) p ∧ at_ C N (tf t) (tf (wL C N p q)) p ≤ 1152921504606846976 := at_bd hT (wL_dur hT p q) ht htl (by omega) hp
  have haq : 0 ≤ at_ C N (tf t) (tf (wL C N p q)) q ∧ at_ C N (tf t) (tf (wL C N p q)) q ≤ 1152921504606846976 := at_bd hT (wL_dur hT p q) ht htl (by omega) hq
  have hgp : (plL C N t (wL C N p q))[p]? = some (at_ C N (tf t) (tf (wL C N p q)) p) := by unfold plL; rw [List.getElem?_map, List.getElem?_range hp]; rfl
  have hgq : (plL C N t (wL C N p q))[q]? = some (at_ C N (tf t) (tf (wL C N p q)) q) := by unfold plL; rw [List.getElem?_map, List.getElem?_range hq]; rfl
  obtain ⟨zp, hzp⟩ : ∃ z, at_ C N (tf t) (tf (wL C N p q)) p = z := ⟨_, rfl⟩
  obtain ⟨zq, hzq⟩ : ∃ z, at_ C N (tf t) (tf (wL C N p q)) q = z := ⟨_, rfl⟩
  rw [hzp] at hap hgp
  rw [hzq] at haq hgq
  have hres : brB C N (tf t) ⟨fr, to, lo, hi⟩ lw = decide (sideW lw ⟨fr, to, lo, hi⟩ < zq - zp) := by
    unfold brB
    rw [hpe, hqe, ← at_wL, ← at_wL, hzp, hzq]
  rw [hres]
  obtain ⟨wv, hwv⟩ : ∃ z, sideW lw (⟨fr, to, lo, hi⟩ : Lk) = z := ⟨_, rfl⟩
  rw [hwv] at hsw ⊢
  clear hres hzp hzq
  have hlen := plL_len (C := C) (N := N) (t := t) (d := wL C N p q)
  have hwl := wL_len (C := C) (N := N) (p := p) (q := q)
  refine fun_enter Try.func28 rfl Try.ntmps28 rfl rfl (satW_nil w) ?_
  repeat ((fail_if_success refine c_probe (id := 1) ?_); (fail_if_success refine c_probe1 (id := 1) ?_); first | refine l_val rfl rfl (by first | exact pureEval_ok rfl  | fail) ?_ | refine l_nil ?_ | refine c_region ?_ | refine c_seq ?_ | refine x_then ?_ | refine r_box rfl rfl rfl rfl (fun _ => ?_)  | fail)
  refine c_keep [1, 3, 4, 6] rfl ?_
  repeat ((fail_if_success refine c_probe (id := 3) ?_); (fail_if_success refine c_probe1 (id := 3) ?_); first | refine l_val rfl rfl (by first | exact pureEval_ok rfl  | fail) ?_ | refine l_nil ?_ | refine c_region ?_ | refine c_seq ?_ | refine x_then ?_ | refine c_reads rfl (by decide +kernel) ?_ | refine q_val rfl rfl (by first | exact pureEval_ok rfl | exact v_load rfl (by repeat (first | exact List.Mem.head _ | apply List.Mem.tail)) rfl (by rfl)  | fail) ?_ | refine q_nil ?_  | fail)
  rename_i b1 b2
  refine c_meetI (ι := Unit) (fun _ => True) (fun _ => [(1, .slice T t.length ct), (4, .pointer (some ⟨b1, 0, none⟩)), (9, .int .i64 p), (10, .int .i64 q), (11, .int .i64 wv)]) (fun _ => [(b1, .cells ⟨[.int .i64 N, .slice A L.length cap, .slice B C.length cab]⟩ 24 (0, 0))]) ?_ ?_
  · cases lw with
    | true =>
      subst hpe hqe hwv
      have hsw' : -1099511627776 ≤ -lo ∧ -lo ≤ 1099511627776 := hsw
      repeat (first | refine c_true rfl ?_ | refine c_reads rfl (by decide +kernel) ?_ | refine q_val rfl rfl (by first | exact v_neg rfl (by omega) (by omega) | exact pureEval_ok rfl | exact v_load rfl (by repeat (first | exact List.Mem.head _ | apply List.Mem.tail)) rfl (by rfl)  | fail) ?_ | refine q_nil ?_  | fail)
      exact x_midI () trivial (by repeat (first | exact EnvSub.nil | refine EnvSub.cons rfl (by first | rfl | (congr 1; done) | (exact congrArg (Value.int _) (by omega)) | (simp; done)) ?_)) (by repeat (first | exact MSub.nil | refine MSub.keep (by first | rfl | assumption) ?_ | refine MSub.drop ?_ | exact MSub.refl _))
    | false =>
      subst hpe hqe hwv
      repeat (first | refine c_false rfl ?_ | refine c_skip ?_  | fail)
      exact x_midI () trivial (by repeat (first | exact EnvSub.nil | refine EnvSub.cons rfl (by first | rfl | (congr 1; done) | (exact congrArg (Value.int _) (by omega)) | (simp; done)) ?_)) (by repeat (first | exact MSub.nil | refine MSub.keep (by first | rfl | assumption) ?_ | refine MSub.drop ?_ | exact MSub.refl _))
  rintro ⟨⟩ -
  skip
  refine c_seq ?_
  refine c_new 0 2 [(2, .calO 0 (fun b => .map (some b)) (setO (chain C N p))), (5, .calO 1 (fun b => .map (some b)) (setO (chain C N q)))] [(2,[0]),(5,[1])] [] rfl (by decide +kernel) rfl ?_; repeat (first | refine e_val rfl rfl rfl rfl (by first | exact pureEval_ok rfl | exact v_load rfl (by repeat (first | exact List.Mem.head _ | apply List.Mem.tail)) rfl (by rfl)  | fail) ?_  | fail)
  refine e_callO rfl rfl rfl rfl rfl rfl (fun W hW => hch p _ W hp hW) (fun ba => ?_)
  repeat (first | refine e_val rfl rfl rfl rfl (by first | exact pureEval_ok rfl | exact v_load rfl (by repeat (first | exact List.Mem.head _ | apply List.Mem.tail)) rfl (by rfl)  | fail) ?_  | fail)
  refine e_callO rfl rfl rfl rfl rfl rfl (fun W hW => hch q _ W hq hW) (fun bb => ?_)
  repeat ((fail_if_success refine c_probe (id := 7) ?_); (fail_if_success refine c_probe1 (id := 7) ?_); first | refine l_val rfl rfl (by first | exact pureEval_ok rfl | exact v_load rfl (by repeat (first | exact List.Mem.head _ | apply List.Mem.tail)) rfl (by rfl)  | fail) ?_ | refine l_nil ?_ | refine c_region ?_ | refine c_seq ?_ | refine x_then ?_ | refine c_block ?_ | refine e_val rfl rfl rfl rfl (by first | exact pureEval_ok rfl  | fail) ?_ | refine e_nil rfl ?_  | fail)
  refine c_loop (ι := BrS) (fun s => s.k ≤ C.length ∧ (s.k = 0 ∨ Grow 1 s.k (flatI ((wL C N p q).take s.k)) s.c s.r)) (fun s => [(1, .slice T t.length ct), (4, .pointer (some ⟨b1, 0, none⟩)), (9, .int .i64 p), (10, .int .i64 q), (11, .int .i64 wv), (12, .map (some ba)), (13, .map (some bb)), (14, plSl s.k s.b s.c), (40, .slice B C.length cab), (41, .int .i64 C.length), (42, .int .i64 s.k)])
    (fun s => (ba, setO (chain C N p)) :: (bb, setO (chain C N q)) :: (b1, .cells ⟨[.int .i64 N, .slice A L.length cap, .slice B C.length cab]⟩ 24 (0, 0)) :: plM (wL C N p q) s.k s.b s.r) (fun s => C.length - s.k) ⟨0, 0, 0, []⟩ ⟨Nat.zero_le _, .inl rfl⟩ (by repeat (first | exact EnvSub.nil | refine EnvSub.cons rfl (by first | rfl | (congr 1; done) | (exact congrArg (Value.int _) (by omega)) | (simp; done)) ?_)) (by repeat (first | exact MSub.nil | refine MSub.keep (by first | rfl | assumption) ?_ | refine MSub.drop ?_ | exact MSub.refl _)) ?_
  rintro ⟨k, b, c, r⟩ ⟨hk, hgr⟩
  simp only at hk hgr ⊢
  have hgr' := fun (_ : Unit) => hgr
  clear hgr
  by_cases hlt : k < C.length
  · obtain ⟨y, hy⟩ : ∃ y, C[k]? = some y := ⟨_, List.getElem?_eq_getElem hlt⟩
    obtain ⟨bc, oc, rfl, hcc⟩ := hC k (lkE y) (by simp [hy])
    have hec := ext_of hcc
    have hnx := wL_take (C := C) (N := N) (p := p) (q := q) hlt
    by_cases hkq : k ∈ chain C N q
    · by_cases hkp : k ∈ chain C N p
      · have hwo : worst C N p q k = y.lo := by unfold worst loOf; rw [if_neg (fun h => h.2 hkp), hy]
        have g1 : decide (k ∈ chain C N q) = true := decide_eq_true hkq
        have g2 : decide (k ∈ chain C N p) = true := decide_eq_true hkp
        repeat (first | refine l_val rfl rfl (by first | exact pureEval_ok rfl | exact v_load rfl (by repeat (first | exact List.Mem.head _ | apply List.Mem.tail)) rfl (by rfl) | exact v_load_ext0 rfl (by assumption) rfl (by rfl) | exact v_index rfl rfl rfl rfl (by omega) (by omega) (by with_reducible first | exact idx4 _ _ _   | fail)  | fail) ?_ | refine l_nil ?_ | refine c_region ?_ | refine c_seq ?_ | refine x_then ?_ | refine r_alloc rfl rfl rfl (by first | exact aggL  | fail) (fun _ => ?_) | refine r_store rfl rfl rfl rfl rfl rfl rfl (by repeat (first | exact Upd.head | apply Upd.tail)) (by rfl) ?_ | refine r_buildSlice rfl rfl rfl rfl rfl rfl (by rfl) (fun _ => ?_) | refine c_false rfl ?_ | refine c_dec_t rfl (by first | omega  | fail) ?_ | refine c_block ?_ | refine c_skip ?_ | refine l_val rfl rfl (v_setGet (b := bb) (s := chain C N q) rfl rfl rfl rfl rfl (by repeat (first | exact List.Mem.head _ | apply List.Mem.tail)) g1) ?_ | refine l_val rfl rfl (v_setGet (b := ba) (s := chain C N p) rfl rfl rfl rfl rfl (by repeat (first | exact List.Mem.head _ | apply List.Mem.tail)) g2) ?_  | fail)
        cases k with
        | zero =>
          simp only [plSl, plM]
          skip
          refine r_append_nil (m := 1) (ys := [.int .i64 y.lo]) rfl rfl rfl rfl rfl rfl (news_own (by repeat (first | exact List.Mem.head _ | apply List.Mem.tail))) rfl rfl (by decide) (by decide) (by decide) (fun b7 c7 r7 hg7 => ?_)
          have e1 : [Value.int .i64 y.lo] = flatI ((wL C N p q).take (0 + 1)) := by rw [hnx, flatI_snoc, hwo]; rfl
          rw [e1] at hg7 ⊢
          repeat (first | refine l_val rfl rfl (by first | exact v_add rfl rfl (by omega) (by omega) | exact pureEval_ok rfl  | fail) ?_ | refine l_nil ?_ | refine c_region ?_ | refine x_then ?_ | refine x_block ?_  | fail)
          refine x_perm (List.perm_append_comm (l₁ := [_]) (l₂ := [_, _, _, _, _])) ?_
          exact x_back ⟨0 + 1, b7, c7, r7⟩ ⟨hlt, .inr hg7⟩ (by simp only; omega) (by repeat (first | exact EnvSub.nil | refine EnvSub.cons rfl (by first | rfl | (congr 1; done) | (exact congrArg (Value.int _) (by omega)) | (simp; done)) ?_)) (by repeat (first | exact MSub.nil | refine MSub.keep (by first | rfl | assumption) ?_ | refine MSub.drop ?_ | exact MSub.refl _))
        | succ k =>
          have hgr := (hgr' ()).resolve_left (by omega)
          simp only [plSl, plM]
          skip
          refine r_append (n := k + 1) (xs := flatI ((wL C N p q).take (k + 1))) (rest := r) (m := 1) (ys := [.int .i64 y.lo]) rfl rfl rfl rfl rfl rfl (news_own (by repeat (first | exact List.Mem.head _ | apply List.Mem.tail))) (by repeat (first | exact Rem.head | apply Rem.tail)) hgr rfl rfl (by decide) (by omega) (by unfold maxLen; omega) (fun b7 c7 r7 hg7 => ?_)
          have e1 : flatI ((wL C N p q).take (k + 1)) ++ [Value.int .i64 y.lo] = flatI ((wL C N p q).take (k + 1 + 1)) := by rw [hnx, flatI_snoc, hwo]
          rw [e1] at hg7 ⊢
          repeat (first | refine l_val rfl rfl (by first | exact v_add rfl rfl (by omega) (by omega) | exact pureEval_ok rfl  | fail) ?_ | refine l_nil ?_ | refine c_region ?_ | refine x_then ?_ | refine x_block ?_  | fail)
          refine x_perm (List.perm_append_comm (l₁ := [_]) (l₂ := [_, _, _, _, _])) ?_
          exact x_back ⟨k + 1 + 1, b7, c7, r7⟩ ⟨hlt, .inr hg7⟩ (by simp only; omega) (by repeat (first | exact EnvSub.nil | refine EnvSub.cons rfl (by first | rfl | (congr 1; done) | (exact congrArg (Value.int _) (by omega)) | (simp; done)) ?_)) (by repeat (first | exact MSub.nil | refine MSub.keep (by first | rfl | assumption) ?_ | refine MSub.drop ?_ | exact MSub.refl _))
      · have hwo : worst C N p q k = y.hi := by unfold worst hiOf; rw [if_pos ⟨hkq, hkp⟩, hy]
        have g1 : decide (k ∈ chain C N q) = true := decide_eq_true hkq
        have g2 : decide (k ∈ chain C N p) = false := decide_eq_false hkp
        repeat (first | refine l_val rfl rfl (by first | exact pureEval_ok rfl | exact v_load rfl (by repeat (first | exact List.Mem.head _ | apply List.Mem.tail)) rfl (by rfl) | exact v_load_ext0 rfl (by assumption) rfl (by rfl) | exact v_index rfl rfl rfl rfl (by omega) (by omega) (by with_reducible first | exact idx4 _ _ _   | fail)  | fail) ?_ | refine l_nil ?_ | refine c_region ?_ | refine c_seq ?_ | refine x_then ?_ | refine r_alloc rfl rfl rfl (by first | exact aggL  | fail) (fun _ => ?_) | refine r_store rfl rfl rfl rfl rfl rfl rfl (by repeat (first | exact Upd.head | apply Upd.tail)) (by rfl) ?_ | refine r_buildSlice rfl rfl rfl rfl rfl rfl (by rfl) (fun _ => ?_) | refine c_true rfl ?_ | refine c_dec_t rfl (by first | omega  | fail) ?_ | refine c_block ?_ | refine c_skip ?_ | refine l_val rfl rfl (v_setGet (b := bb) (s := chain C N q) rfl rfl rfl rfl rfl (by repeat (first | exact List.Mem.head _ | apply List.Mem.tail)) g1) ?_ | refine l_val rfl rfl (v_setGet (b := ba) (s := chain C N p) rfl rfl rfl rfl rfl (by repeat (first | exact List.Mem.head _ | apply List.Mem.tail)) g2) ?_  | fail)
        cases k with
        | zero =>
          simp only [plSl, plM]
          skip
          refine r_append_nil (m := 1) (ys := [.int .i64 y.hi]) rfl rfl rfl rfl rfl rfl (news_own (by repeat (first | exact List.Mem.head _ | apply List.Mem.tail))) rfl rfl (by decide) (by decide) (by decide) (fun b7 c7 r7 hg7 => ?_)
          have e1 : [Value.int .i64 y.hi] = flatI ((wL C N p q).take (0 + 1)) := by rw [hnx, flatI_snoc, hwo]; rfl
          rw [e1] at hg7 ⊢
          repeat (first | refine l_val rfl rfl (by first | exact v_add rfl rfl (by omega) (by omega) | exact pureEval_ok rfl  | fail) ?_ | refine l_nil ?_ | refine c_region ?_ | refine x_then ?_ | refine x_block ?_  | fail)
          refine x_perm (List.perm_append_comm (l₁ := [_]) (l₂ := [_, _, _, _, _])) ?_
          exact x_back ⟨0 + 1, b7, c7, r7⟩ ⟨hlt, .inr hg7⟩ (by simp only; omega) (by repeat (first | exact EnvSub.nil | refine EnvSub.cons rfl (by first | rfl | (congr 1; done) | (exact congrArg (Value.int _) (by omega)) | (simp; done)) ?_)) (by repeat (first | exact MSub.nil | refine MSub.keep (by first | rfl | assumption) ?_ | refine MSub.drop ?_ | exact MSub.refl _))
        | succ k =>
          have hgr := (hgr' ()).resolve_left (by omega)
          simp only [plSl, plM]
          skip
          refine r_append (n := k + 1) (xs := flatI ((wL C N p q).take (k + 1))) (rest := r) (m := 1) (ys := [.int .i64 y.hi]) rfl rfl rfl rfl rfl rfl (news_own (by repeat (first | exact List.Mem.head _ | apply List.Mem.tail))) (by repeat (first | exact Rem.head | apply Rem.tail)) hgr rfl rfl (by decide) (by omega) (by unfold maxLen; omega) (fun b7 c7 r7 hg7 => ?_)
          have e1 : flatI ((wL C N p q).take (k + 1)) ++ [Value.int .i64 y.hi] = flatI ((wL C N p q).take (k + 1 + 1)) := by rw [hnx, flatI_snoc, hwo]
          rw [e1] at hg7 ⊢
          repeat (first | refine l_val rfl rfl (by first | exact v_add rfl rfl (by omega) (by omega) | exact pureEval_ok rfl  | fail) ?_ | refine l_nil ?_ | refine c_region ?_ | refine x_then ?_ | refine x_block ?_  | fail)
          refine x_perm (List.perm_append_comm (l₁ := [_]) (l₂ := [_, _, _, _, _])) ?_
          exact x_back ⟨k + 1 + 1, b7, c7, r7⟩ ⟨hlt, .inr hg7⟩ (by simp only; omega) (by repeat (first | exact EnvSub.nil | refine EnvSub.cons rfl (by first | rfl | (congr 1; done) | (exact congrArg (Value.int _) (by omega)) | (simp; done)) ?_)) (by repeat (first | exact MSub.nil | refine MSub.keep (by first | rfl | assumption) ?_ | refine MSub.drop ?_ | exact MSub.refl _))
    · have hwo : worst C N p q k = y.lo := by unfold worst loOf; rw [if_neg (fun h => hkq h.1), hy]
      have g1 : decide (k ∈ chain C N q) = false := decide_eq_false hkq
      have g2 : True := trivial
      repeat (first | refine l_val rfl rfl (by first | exact pureEval_ok rfl | exact v_load rfl (by repeat (first | exact List.Mem.head _ | apply List.Mem.tail)) rfl (by rfl) | exact v_load_ext0 rfl (by assumption) rfl (by rfl) | exact v_index rfl rfl rfl rfl (by omega) (by omega) (by with_reducible first | exact idx4 _ _ _   | fail)  | fail) ?_ | refine l_nil ?_ | refine c_region ?_ | refine c_seq ?_ | refine x_then ?_ | refine l_skip rfl rfl ?_ | refine r_alloc rfl rfl rfl (by first | exact aggL  | fail) (fun _ => ?_) | refine r_store rfl rfl rfl rfl rfl rfl rfl (by repeat (first | exact Upd.head | apply Upd.tail)) (by rfl) ?_ | refine r_buildSlice rfl rfl rfl rfl rfl rfl (by rfl) (fun _ => ?_) | refine c_false rfl ?_ | refine c_dec_t rfl (by first | omega  | fail) ?_ | refine c_block ?_ | refine c_skip ?_ | refine l_val rfl rfl (v_setGet (b := bb) (s := chain C N q) rfl rfl rfl rfl rfl (by repeat (first | exact List.Mem.head _ | apply List.Mem.tail)) g1) ?_  | fail)
      cases k with
      | zero =>
        simp only [plSl, plM]
        skip
        refine r_append_nil (m := 1) (ys := [.int .i64 y.lo]) rfl rfl rfl rfl rfl rfl (news_own (by repeat (first | exact List.Mem.head _ | apply List.Mem.tail))) rfl rfl (by decide) (by decide) (by decide) (fun b7 c7 r7 hg7 => ?_)
        have e1 : [Value.int .i64 y.lo] = flatI ((wL C N p q).take (0 + 1)) := by rw [hnx, flatI_snoc, hwo]; rfl
        rw [e1] at hg7 ⊢
        repeat (first | refine l_val rfl rfl (by first | exact v_add rfl rfl (by omega) (by omega) | exact pureEval_ok rfl  | fail) ?_ | refine l_nil ?_ | refine c_region ?_ | refine x_then ?_ | refine x_block ?_  | fail)
        refine x_perm (List.perm_append_comm (l₁ := [_]) (l₂ := [_, _, _, _, _])) ?_
        exact x_back ⟨0 + 1, b7, c7, r7⟩ ⟨hlt, .inr hg7⟩ (by simp only; omega) (by repeat (first | exact EnvSub.nil | refine EnvSub.cons rfl (by first | rfl | (congr 1; done) | (exact congrArg (Value.int _) (by omega)) | (simp; done)) ?_)) (by repeat (first | exact MSub.nil | refine MSub.keep (by first | rfl | assumption) ?_ | refine MSub.drop ?_ | exact MSub.refl _))
      | succ k =>
        have hgr := (hgr' ()).resolve_left (by omega)
        simp only [plSl, plM]
        skip
        refine r_append (n := k + 1) (xs := flatI ((wL C N p q).take (k + 1))) (rest := r) (m := 1) (ys := [.int .i64 y.lo]) rfl rfl rfl rfl rfl rfl (news_own (by repeat (first | exact List.Mem.head _ | apply List.Mem.tail))) (by repeat (first | exact Rem.head | apply Rem.tail)) hgr rfl rfl (by decide) (by omega) (by unfold maxLen; omega) (fun b7 c7 r7 hg7 => ?_)
        have e1 : flatI ((wL C N p q).take (k + 1)) ++ [Value.int .i64 y.lo] = flatI ((wL C N p q).take (k + 1 + 1)) := by rw [hnx, flatI_snoc, hwo]
        rw [e1] at hg7 ⊢
        repeat (first | refine l_val rfl rfl (by first | exact v_add rfl rfl (by omega) (by omega) | exact pureEval_ok rfl  | fail) ?_ | refine l_nil ?_ | refine c_region ?_ | refine x_then ?_ | refine x_block ?_  | fail)
        refine x_perm (List.perm_append_comm (l₁ := [_]) (l₂ := [_, _, _, _, _])) ?_
        exact x_back ⟨k + 1 + 1, b7, c7, r7⟩ ⟨hlt, .inr hg7⟩ (by simp only; omega) (by repeat (first | exact EnvSub.nil | refine EnvSub.cons rfl (by first | rfl | (congr 1; done) | (exact congrArg (Value.int _) (by omega)) | (simp; done)) ?_)) (by repeat (first | exact MSub.nil | refine MSub.keep (by first | rfl | assumption) ?_ | refine MSub.drop ?_ | exact MSub.refl _))
  · have hke : k = C.length := by omega
    subst hke
    have e1 : (wL C N p q).take C.length = wL C N p q := List.take_of_length_le (by omega)
    obtain ⟨A', c', hsl, hat⟩ := plSl_at (l := wL C N p q) (k := C.length) (b := b) (c := c) (r := r) hwl
    rw [hsl]
    refine c_keep [1, 4, 9, 10, 11, 14, 41, 42] rfl ?_
    repeat (first | refine l_val rfl rfl (by first | exact pureEval_ok rfl | exact v_load rfl (by repeat (first | exact List.Mem.head _ | apply List.Mem.tail)) rfl (by rfl)  | fail) ?_ | refine l_nil ?_ | refine c_region ?_ | refine c_seq ?_ | refine x_then ?_ | refine c_dec_f rfl (by first | omega  | fail) ?_ | refine c_exit ?_ | refine x_then_exit ?_ | refine x_block_same ?_  | fail)
    refine r_call1 (ι := Nat × Nat × List Value) (v := fun i => .tuple ⟨[.slice (some ⟨i.1, 0, none⟩) (plL C N t (wL C N p q)).length i.2.1, .int .i64 0]⟩) (bk := fun i => i.1) (o := fun i => .cells ⟨flatI (plL C N t (wL C N p q)) ++ i.2.2⟩ 3 (0, 0)) rfl rfl rfl (fun W hW => (hpl A' c' (wL C N p q) _ W (by omega) (hat hW (fun x hx => by repeat (first | exact hx | apply List.Mem.tail))) hW).mono fun e W' hq => hq.ok hOK) ?_
    rintro ⟨b8, c8, r8⟩
    simp only
    have hip := flatI_get hgp (r := r8)
    have hiq := flatI_get hgq (r := r8)
    rw [hlen]
    repeat (first | refine l_val rfl rfl (by first | exact pureEval_ok rfl  | fail) ?_ | refine l_nil ?_ | refine c_seq ?_ | refine x_then ?_ | refine c_ret ?_ | refine c_reads rfl (by decide +kernel) ?_ | refine q_val rfl rfl (by first | exact v_sub rfl rfl (by omega) (by omega) | exact pureEval_ok rfl | exact v_load rfl (by repeat (first | exact List.Mem.head _ | apply List.Mem.tail)) rfl (by rfl) | exact v_index rfl rfl rfl rfl (by omega) (by omega) (by with_reducible first | exact idx1 _   | fail) | exact v_load_at rfl (by repeat (first | exact List.Mem.head _ | apply List.Mem.tail)) rfl rfl (by first | assumption  | fail)  | fail) ?_ | refine q_nil ?_ | refine q_dec_t rfl rfl rfl rfl (by first | omega  | fail) ?_  | fail)
    exact x_ret rfl rfl (by repeat (first | exact Res.nil | (apply Res.tmp; rfl) | (apply Res.cell; rfl; exact (by repeat (first | exact List.Mem.head _ | apply List.Mem.tail)); rfl; rfl))) rfl (fun W hW => ⟨rfl, hW.below⟩)
end R23
end Go.Proofs

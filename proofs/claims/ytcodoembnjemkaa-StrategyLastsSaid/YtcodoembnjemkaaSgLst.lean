/- Uncertain networks: Play, as the program has it, walked. -/
import Derived.Test.YtcodoembnjemkaaCtM
import Derived.Test.YtcodoembnjemkaaSgStg
import Derived.Test.YtcodoembnjemkaaStMts
set_option linter.unusedSectionVars false
set_option linter.unusedVariables false
set_option linter.unusedSimpArgs false
namespace Go.Proofs
open Go.RowKit Go.Kin Go.Kin.St Go.Kin.Ct
open R22
namespace R23
theorem Dur.of {C : List Lk} {d : List Int} (h1 : d.length = C.length) (h2 : ∀ (i : Nat) (x : Lk) (y : Int), C[i]? = some x → d[i]? = some y → x.lo ≤ y ∧ y ≤ x.hi) : Dur C d := ⟨h1, fun i hi => by
  have hx := List.getElem?_eq_getElem hi
  have hy := List.getElem?_eq_getElem (show i < d.length by omega)
  have := h2 i _ _ hx hy
  rw [tf_get hy]
  unfold loOf hiOf
  rw [hx]
  exact this⟩
theorem Dur.at {C : List Lk} {d : List Int} (h : Dur C d) {i : Nat} {x : Lk} {y : Int} (hx : C[i]? = some x) (hy : d[i]? = some y) : x.lo ≤ y ∧ y ≤ x.hi := by
  have := h.2 i (List.getElem?_eq_some_iff.1 hx).1
  rw [tf_get hy] at this
  unfold loOf hiOf at this
  rw [hx] at this
  exact this
structure PS where
  p : Nat
  b : Nat
  c : Nat
  r : List Value
/-- the list so far -/
def plSl (k b cap : Nat) : Value := match k with
  | 0 => .slice none 0 0
  | k + 1 => .slice (some ⟨b, 0, none⟩) (k + 1) cap
def plM (l : List Int) (k b : Nat) (rest : List Value) : List (Nat × Obj) := match k with
  | 0 => []
  | k + 1 => [(b, .cells ⟨flatI (l.take (k + 1)) ++ rest⟩ 3 (0, 0))]
set_option maxRecDepth 100000 in
set_option maxHeartbeats 40000000 in
theorem Play_calls (u : Un) (T D : Option Addr) (ct cd : Nat) (t d : List Int) (w : World) (hA : u.In w) (hl : u.L.length ≤ 1000) (hTt : Kin.At w T 1 (t.map inE)) (hDd : Kin.At w D 1 (d.map inE)) (htl : t.length ≤ 9223372036854775807) (hdl : d.length ≤ 9223372036854775807) :
    Calls Try.prog 21 ⟨[.agg ⟨u.v⟩, .slice T t.length ct, .slice D d.length cd]⟩ w (PlayQ u.n u.L u.C t d w) := by
  have hck : ∀ (mem : List (Nat × Obj)) (W : World), SatW w (base w) noJ mem W → Calls Try.prog 55 ⟨[.agg ⟨u.v⟩]⟩ W (ChkQ u.n u.L u.C W) := fun mem W hW => check_calls' u W (hA.sat hW) hl
  have hB := hA.c
  obtain ⟨n, A, cap, L, B, cab, C⟩ := u
  simp only [Un.v] at hl hck hB ⊢
  refine fun_enter Try.func21 rfl Try.ntmps21 rfl rfl (satW_nil w) ?_
  by_cases h0 : chkU n L C = 0
  rotate_left
  · obtain ⟨p1, p2⟩ := plE_chk (t := t) (d := d) h0
    repeat (first | refine l_val rfl rfl (by first | exact pureEval_ok rfl | exact v_load rfl (by repeat (first | exact List.Mem.head _ | apply List.Mem.tail)) rfl (by rfl)  | fail) ?_ | refine l_nil ?_ | refine c_region ?_ | refine c_seq ?_ | refine x_then ?_ | refine r_box rfl rfl rfl rfl (fun _ => ?_)  | fail)
    refine r_callI (ι := (Nat → Int) × (Nat → Int) × (Nat → Nat)) (v := fun i => .tuple ⟨[.agg ⟨treeL i.1 i.2.1 i.2.2⟩, .int .i64 (chkU n L C)]⟩) rfl rfl rfl (fun W hW => (hck _ W hW).mono fun e W' ⟨g1, g2⟩ => ?_) ?_
    · rcases g2 with ⟨g2, g3⟩ | ⟨_, f, g, h, g2⟩
      · exact absurd g2 h0
      · exact ⟨(f, g, h), g2, g1⟩
    rintro ⟨f, g, h⟩
    simp only
    repeat (first | refine r_alloc rfl rfl rfl (treeZ rfl) (fun b2 => ?_) | refine r_store (vs := treeL _ _ _) rfl rfl rfl rfl rfl treeL_beq treeL_one (by repeat (first | exact Upd.head | apply Upd.tail)) (putK_all (treeL_len.trans treeL_len.symm)) ?_ | refine l_val rfl rfl (by first | exact pureEval_ok rfl  | fail) ?_ | refine l_nil ?_ | refine c_region ?_ | refine c_seq ?_ | refine x_then ?_ | refine c_dec_t rfl (by first | omega  | fail) ?_ | refine c_ret ?_ | refine x_then_ret ?_  | fail)
    exact x_ret rfl rfl (by repeat (first | exact Res.nil | (apply Res.tmp; rfl) | (apply Res.cell; rfl; exact (by repeat (first | exact List.Mem.head _ | apply List.Mem.tail)); rfl; rfl))) rfl (fun W hW => ⟨.slice none 0 0, by rw [p1], by rw [p2]; exact RowQ.nil, hW.below⟩)
  obtain ⟨n1, n2, l1, l2, hF, hT⟩ := chkU_ok h0
  obtain ⟨N, rfl⟩ : ∃ N : Nat, n = N := ⟨n.toNat, by omega⟩
  rw [Int.toNat_natCast] at hT
  repeat (first | refine l_val rfl rfl (by first | exact pureEval_ok rfl | exact v_load rfl (by repeat (first | exact List.Mem.head _ | apply List.Mem.tail)) rfl (by rfl)  | fail) ?_ | refine l_nil ?_ | refine c_region ?_ | refine c_seq ?_ | refine x_then ?_ | refine r_box rfl rfl rfl rfl (fun _ => ?_)  | fail)
  refine r_call (v := .tuple ⟨[.agg ⟨theTree C N⟩, .int .i64 0]⟩) rfl rfl rfl (fun W hW => (hck _ W hW).mono fun e W' ⟨g1, g2⟩ => ?_) ?_
  · rcases g2 with ⟨_, g3⟩ | ⟨g2, _⟩
    · rw [Int.toNat_natCast] at g3
      exact ⟨g3, g1⟩
    · exact absurd h0 g2
  have hfin : ¬ (t.length = (N : Int) ∧ Times t ∧ Dur C d) → plE N L C t d = 1 ∧ plR N L C t d = [] := fun h => plE_arg h0 h
  have hfinOK : (t.length = (N : Int) ∧ Times t ∧ Dur C d) → plE N L C t d = 0 ∧ plR N L C t d = plL C N t d := fun h => by
    have := plE_ok (n := N) (L := L) (C := C) (t := t) (d := d) ⟨h0, h⟩
    rw [Int.toNat_natCast] at this
    exact this
  unfold theTree
  by_cases c1 : t.length = N
  rotate_left
  · obtain ⟨p1, p2⟩ := hfin (fun h => c1 (by omega))
    repeat (first | refine r_alloc rfl rfl rfl (treeZ rfl) (fun b2 => ?_) | refine r_store (vs := treeL _ _ _) rfl rfl rfl rfl rfl treeL_beq treeL_one (by repeat (first | exact Upd.head | apply Upd.tail)) (putK_all (treeL_len.trans treeL_len.symm)) ?_ | refine l_val rfl rfl (by first | exact pureEval_ok rfl | exact v_load rfl (by repeat (first | exact List.Mem.head _ | apply List.Mem.tail)) rfl (by rfl)  | fail) ?_ | refine l_nil ?_ | refine c_region ?_ | refine c_seq ?_ | refine x_then ?_ | refine l_skip rfl rfl ?_ | refine c_true rfl ?_ | refine c_false rfl ?_ | refine c_skip ?_ | refine c_ret ?_ | refine x_then_ret ?_ | refine l_dec_t rfl rfl rfl rfl rfl (by first | omega  | fail) ?_  | fail)
    exact x_ret rfl rfl (by repeat (first | exact Res.nil | (apply Res.tmp; rfl) | (apply Res.cell; rfl; exact (by repeat (first | exact List.Mem.head _ | apply List.Mem.tail)); rfl; rfl))) rfl (fun W hW => ⟨.slice none 0 0, by rw [p1], by rw [p2]; exact RowQ.nil, hW.below⟩)
  by_cases c2 : d.length = C.length
  rotate_left
  · obtain ⟨p1, p2⟩ := hfin (fun h => c2 h.2.2.1)
    repeat (first | refine r_alloc rfl rfl rfl (treeZ rfl) (fun b2 => ?_) | refine r_store (vs := treeL _ _ _) rfl rfl rfl rfl rfl treeL_beq treeL_one (by repeat (first | exact Upd.head | apply Upd.tail)) (putK_all (treeL_len.trans treeL_len.symm)) ?_ | refine l_val rfl rfl (by first | exact pureEval_ok rfl | exact v_load rfl (by repeat (first | exact List.Mem.head _ | apply List.Mem.tail)) rfl (by rfl)  | fail) ?_ | refine l_nil ?_ | refine c_region ?_ | refine c_seq ?_ | refine x_then ?_ | refine l_skip rfl rfl ?_ | refine c_true rfl ?_ | refine c_false rfl ?_ | refine c_skip ?_ | refine c_ret ?_ | refine x_then_ret ?_ | refine l_dec_t rfl rfl rfl rfl rfl (by first | omega  | fail) ?_ | refine l_dec_f rfl rfl rfl rfl rfl (by first | omega  | fail) ?_  | fail)
    exact x_ret rfl rfl (by repeat (first | exact Res.nil | (apply Res.tmp; rfl) | (apply Res.cell; rfl; exact (by repeat (first | exact List.Mem.head _ | apply List.Mem.tail)); rfl; rfl))) rfl (fun W hW => ⟨.slice none 0 0, by rw [p1], by rw [p2]; exact RowQ.nil, hW.below⟩)
  repeat (first | refine r_alloc rfl rfl rfl (treeZ rfl) (fun b2 => ?_) | refine r_store (vs := treeL _ _ _) rfl rfl rfl rfl rfl treeL_beq treeL_one (by repeat (first | exact Upd.head | apply Upd.tail)) (putK_all (treeL_len.trans treeL_len.symm)) ?_ | refine l_val rfl rfl (by first | exact pureEval_ok rfl | exact v_load rfl (by repeat (first | exact List.Mem.head _ | apply List.Mem.tail)) rfl (by rfl)  | fail) ?_ | refine l_nil ?_ | refine c_region ?_ | refine c_seq ?_ | refine x_then ?_ | refine c_false rfl ?_ | refine c_skip ?_ | refine l_dec_f rfl rfl rfl rfl rfl (by first | omega | exact fun h => h rfl  | fail) ?_  | fail)
  refine r_call rfl rfl rfl (fun W hW => containsN_calls T ct t W (hTt.sat hW) htl) ?_
  by_cases c3 : Times t
  rotate_left
  · obtain ⟨p1, p2⟩ := hfin (fun h => c3 h.2.1)
    rw [@decide_eq_true _ (Classical.propDecidable _) c3]
    repeat (first | refine l_val rfl rfl (by first | exact pureEval_ok rfl  | fail) ?_ | refine l_nil ?_ | refine c_region ?_ | refine c_seq ?_ | refine x_then ?_ | refine c_true rfl ?_ | refine c_ret ?_ | refine x_then_ret ?_  | fail)
    exact x_ret rfl rfl (by repeat (first | exact Res.nil | (apply Res.tmp; rfl) | (apply Res.cell; rfl; exact (by repeat (first | exact List.Mem.head _ | apply List.Mem.tail)); rfl; rfl))) rfl (fun W hW => ⟨.slice none 0 0, by rw [p1], by rw [p2]; exact RowQ.nil, hW.below⟩)
  rw [@decide_eq_false _ (Classical.propDecidable _) (fun h2 : ¬ Times t => h2 c3)]
  repeat (first | refine l_val rfl rfl (by first | exact pureEval_ok rfl  | fail) ?_ | refine l_nil ?_ | refine c_region ?_ | refine c_seq ?_ | refine x_then ?_ | refine c_false rfl ?_ | refine c_block ?_ | refine c_skip ?_  | fail)
  rename_i b1
  refine c_loop (ι := Nat) (fun k => k ≤ d.length ∧ ∀ (i : Nat) (x : Lk) (y : Int), i < k → C[i]? = some x → d[i]? = some y → x.lo ≤ y ∧ y ≤ x.hi) (fun k => [(1, .slice T t.length ct), (2, .slice D d.length cd), (3, .pointer (some ⟨b1, 0, none⟩)), (6, .slice none 0 0), (7, .int .i64 0), (8, .pointer (some ⟨b2, 0, none⟩)), (39, .slice D d.length cd), (40, .int .i64 d.length), (41, .int .i64 k)])
    (fun _ => [(b2, .cells ⟨treeL (fI C C.length) (gT C N N) (R23.hT C N N)⟩ 111 (0, 0)), (b1, .cells ⟨[.int .i64 N, .slice A L.length cap, .slice B C.length cab]⟩ 24 (0, 0))]) (fun k => d.length - k) 0 ⟨Nat.zero_le _, fun i x y h => by omega⟩ (by repeat (first | exact EnvSub.nil | refine EnvSub.cons rfl (by first | rfl | (congr 1; done) | (exact congrArg (Value.int _) (by omega)) | (simp; done)) ?_)) (by repeat (first | exact MSub.nil | refine MSub.keep (by first | rfl | assumption) ?_ | refine MSub.drop ?_ | exact MSub.refl _)) ?_
  rintro k ⟨hk, hdr⟩
  by_cases hlt : k < d.length
  · obtain ⟨y, hy⟩ : ∃ y, d[k]? = some y := ⟨_, List.getElem?_eq_getElem hlt⟩
    obtain ⟨x, hx⟩ : ∃ x, C[k]? = some x := ⟨_, List.getElem?_eq_getElem (by omega)⟩
    obtain ⟨bd, od, rfl, hcd⟩ := hDd k (inE y) (by simp [hy])
    have hed := ext_of hcd
    rw [Nat.mul_one] at hed
    obtain ⟨bc, oc, rfl, hcc⟩ := hB k (lkE x) (by simp [hx])
    have hec := ext_of hcc
    by_cases hg : x.lo ≤ y ∧ y ≤ x.hi
    · repeat (first | refine l_val rfl rfl (by first | exact v_add rfl rfl (by omega) (by omega) | exact pureEval_ok rfl | exact v_load rfl (by repeat (first | exact List.Mem.head _ | apply List.Mem.tail)) rfl (by rfl) | exact v_load_ext0 rfl (by assumption) rfl (by rfl) | exact v_load_ext rfl (by assumption) rfl (by rfl) | exact v_index rfl rfl rfl rfl (by omega) (by omega) (by with_reducible first | exact idx2 _ _  | exact idx4 _ _ _   | fail)  | fail) ?_ | refine l_nil ?_ | refine c_region ?_ | refine c_seq ?_ | refine x_then ?_ | refine c_dec_t rfl (by first | omega  | fail) ?_ | refine c_dec_f rfl (by first | omega | exact fun h => h rfl  | fail) ?_ | refine c_block ?_ | refine c_skip ?_ | refine x_block ?_ | refine l_dec_f rfl rfl rfl rfl rfl (by first | omega  | fail) ?_  | fail)
      refine x_back (k + 1) ⟨hlt, fun i x' y' hi hx' hy' => ?_⟩ (by omega) (by repeat (first | exact EnvSub.nil | refine EnvSub.cons rfl (by first | rfl | (congr 1; done) | (exact congrArg (Value.int _) (by omega)) | (simp; done)) ?_)) (by repeat (first | exact MSub.nil | refine MSub.keep (by first | rfl | assumption) ?_ | refine MSub.drop ?_ | exact MSub.refl _))
      by_cases e : i = k
      · subst e
        rw [hx] at hx'; rw [hy] at hy'
        cases hx'; cases hy'
        exact hg
      · exact hdr i x' y' (by omega) hx' hy'
    · obtain ⟨p1, p2⟩ := hfin (fun h => hg (h.2.2.at hx hy))
      repeat' (first | refine l_val rfl rfl (by first | exact pureEval_ok rfl | exact v_load rfl (by repeat (first | exact List.Mem.head _ | apply List.Mem.tail)) rfl (by rfl) | exact v_load_ext0 rfl (by assumption) rfl (by rfl) | exact v_load_ext rfl (by assumption) rfl (by rfl) | exact v_index rfl rfl rfl rfl (by omega) (by omega) (by with_reducible first | exact idx2 _ _  | exact idx4 _ _ _   | fail)  | fail) ?_ | refine l_nil ?_ | refine c_region ?_ | refine c_seq ?_ | refine x_then ?_ | refine l_skip rfl rfl ?_ | refine c_true rfl ?_ | refine c_dec_t rfl (by first | omega  | fail) ?_ | refine c_block ?_ | refine c_skip ?_ | refine c_ret ?_ | refine x_then_ret ?_ | refine x_block_ret ?_ | refine l_dec rfl rfl rfl rfl rfl (fun _ => ?_) (fun _ => ?_)  | fail)
      all_goals first
        | exact x_ret rfl rfl (by repeat (first | exact Res.nil | (apply Res.tmp; rfl) | (apply Res.cell; rfl; exact (by repeat (first | exact List.Mem.head _ | apply List.Mem.tail)); rfl; rfl))) rfl (fun W hW => ⟨.slice none 0 0, by rw [p1], by rw [p2]; exact RowQ.nil, hW.below⟩)
        | exact absurd (show x.lo ≤ y ∧ y ≤ x.hi by omega) hg
  have hke : k = d.length := by omega
  subst hke
  have hdur : Dur C d := Dur.of c2 fun i x y h1 h2 => hdr i x y (List.getElem?_eq_some_iff.1 h2).1 h1 h2
  obtain ⟨p1, p2⟩ := hfinOK ⟨by omega, c3, hdur⟩
  clear hk hlt hdr hfin hfinOK
  repeat (first | refine l_val rfl rfl (by first | exact pureEval_ok rfl | exact v_load rfl (by repeat (first | exact List.Mem.head _ | apply List.Mem.tail)) rfl (by rfl)  | fail) ?_ | refine l_nil ?_ | refine c_region ?_ | refine c_seq ?_ | refine x_then ?_ | refine c_dec_f rfl (by first | omega | exact fun h => h rfl  | fail) ?_ | refine c_block ?_ | refine c_exit ?_ | refine x_then_exit ?_ | refine x_block_same ?_  | fail)
  refine c_loop (ι := PS) (fun s => s.p ≤ N ∧ (s.p = 0 ∨ Grow 1 s.p (flatI ((plL C N t d).take s.p)) s.c s.r)) (fun s => [(1, .slice T t.length ct), (2, .slice D d.length cd), (3, .pointer (some ⟨b1, 0, none⟩)), (6, plSl s.p s.b s.c), (7, .int .i64 0), (8, .pointer (some ⟨b2, 0, none⟩)), (66, .int .i64 N), (67, .int .i64 s.p)])
    (fun s => (b2, .cells ⟨treeL (fI C C.length) (gT C N N) (R23.hT C N N)⟩ 111 (0, 0)) :: (b1, .cells ⟨[.int .i64 N, .slice A L.length cap, .slice B C.length cab]⟩ 24 (0, 0)) :: plM (plL C N t d) s.p s.b s.r) (fun s => N - s.p) ⟨0, 0, 0, []⟩ ⟨Nat.zero_le _, .inl rfl⟩ (by repeat (first | exact EnvSub.nil | refine EnvSub.cons rfl (by first | rfl | (congr 1; done) | (exact congrArg (Value.int _) (by omega)) | (simp; done)) ?_)) (by repeat (first | exact MSub.nil | refine MSub.keep (by first | rfl | assumption) ?_ | refine MSub.drop ?_ | exact MSub.refl _)) ?_
  rintro ⟨p, b, c, r⟩ ⟨hp, hgr⟩
  simp only at hp hgr ⊢
  have hgr' := fun (_ : Unit) => hgr
  clear hgr
  by_cases hlt : p < N
  · obtain ⟨rt, r1, r2, -⟩ := hT.root_in hlt
    have hro := treeL_g (f := fI C C.length) (g := gT C N N) (h := R23.hT C N N) (p := p) (by omega)
    have hgp : gT C N N p = rt := by unfold gT; rw [if_pos hlt]; exact r2
    rw [hgp] at hro
    obtain ⟨tv, htv⟩ : ∃ v, t[rt]? = some v := ⟨_, List.getElem?_eq_getElem (by omega)⟩
    obtain ⟨bt, ot, rfl, hct⟩ := hTt rt (inE tv) (by simp [htv])
    have het := ext_of hct
    rw [Nat.mul_one] at het
    have htb := c3 tv (List.mem_of_getElem? htv)
    have hend := hT.ends p hlt
    have h00 : tv + lsum (tf d) (climb C 0 p).1 = tv := by show tv + 0 = tv; omega
    repeat (first | refine l_val rfl rfl (by first | exact pureEval_ok rfl | exact v_load_ext0 rfl (by assumption) rfl (by rfl) | exact v_index rfl rfl rfl rfl (by omega) (by omega) (by with_reducible first | exact idx2 _ _   | fail) | exact v_indexA rfl rfl rfl rfl (by omega) (by omega) (by with_reducible first | exact idx2 _ _   | fail) | exact v_load_at rfl (by repeat (first | exact List.Mem.head _ | apply List.Mem.tail)) rfl rfl (by first | assumption  | fail)  | fail) ?_ | refine l_nil ?_ | refine c_region ?_ | refine c_seq ?_ | refine x_then ?_ | refine c_dec_t rfl (by first | omega  | fail) ?_ | refine c_block ?_ | refine c_skip ?_  | fail)
    refine c_loop (ι := Nat) (fun j => j ≤ N ∧ (climb C j p).1.length = j) (fun j => [(1, .slice (some ⟨bt, ot, none⟩) t.length ct), (2, .slice D d.length cd), (3, .pointer (some ⟨b1, 0, none⟩)), (6, plSl p b c), (7, .int .i64 0), (8, .pointer (some ⟨b2, 0, none⟩)), (66, .int .i64 N), (67, .int .i64 p), (12, .int .i64 (tv + lsum (tf d) (climb C j p).1)), (13, .int .i64 (climb C j p).2)])
      (fun _ => (b2, .cells ⟨treeL (fI C C.length) (gT C N N) (R23.hT C N N)⟩ 111 (0, 0)) :: (b1, .cells ⟨[.int .i64 N, .slice A L.length cap, .slice B C.length cab]⟩ 24 (0, 0)) :: plM (plL C N t d) p b r) (fun j => N - j) 0 ⟨Nat.zero_le _, rfl⟩ (by simp only [h00]; exact (by repeat (first | exact EnvSub.nil | refine EnvSub.cons rfl (by first | rfl | (congr 1; done) | (exact congrArg (Value.int _) (by omega)) | (simp; done)) ?_))) (MSub.refl _) ?_
    rintro j ⟨hj, hcl⟩
    obtain ⟨a0, a1⟩ := climb_in hT.cal j p (by omega) (by omega)
    obtain ⟨at1, hat⟩ : ∃ a, (climb C j p).2 = a := ⟨_, rfl⟩
    have hsb := lsumD (j := j) (p := p) hT hdur
    rw [hcl] at hsb
    rw [hat] at a0 a1 ⊢
    have hto : (treeL (fI C C.length) (gT C N N) (R23.hT C N N))[at1.toNat]? = some (.int .i64 (fI C C.length at1.toNat)) := treeL_f (by omega)
    cases hi : into C at1 with
    | none =>
      have hfx : fI C C.length at1.toNat = 0 := fI_none a0 (by rw [List.take_length]; exact hi)
      have hst := climb_stop (C := C) (f := j) (p := p) (by rw [hat]; exact hi) (N - j)
      rw [show j + (N - j) = N by omega] at hst
      have hval : tv + lsum (tf d) (climb C j p).1 = at_ C N (tf t) (tf d) p := by
        unfold at_ chain
        rw [r2, Int.toNat_natCast, tf_get htv, hst]
      rw [hval]
      have hnx := plL_take (C := C) (N := N) (t := t) (d := d) hlt
      cases p with
      | zero =>
        simp only [plSl, plM]
        repeat (first | refine l_val rfl rfl (by first | exact pureEval_ok rfl | exact v_indexA rfl rfl rfl rfl (by omega) (by omega) (by with_reducible first | exact idx5 _   | fail) | exact v_load_at rfl (by repeat (first | exact List.Mem.head _ | apply List.Mem.tail)) rfl rfl (by first | assumption  | fail)  | fail) ?_ | refine l_nil ?_ | refine c_region ?_ | refine c_seq ?_ | refine x_then ?_ | refine r_buildSlice rfl rfl rfl rfl rfl rfl (by rfl) (fun _ => ?_) | refine c_dec_f rfl (by first | omega | exact fun h => h rfl  | fail) ?_ | refine c_exit ?_ | refine x_then_exit ?_ | refine x_block_same ?_  | fail)
        refine r_append_nil (m := 1) (ys := [.int .i64 (at_ C N (tf t) (tf d) ((0 : Nat) : Int))]) rfl rfl rfl rfl rfl rfl (news_own (by repeat (first | exact List.Mem.head _ | apply List.Mem.tail))) rfl rfl (by decide) (by decide) (by decide) (fun b7 c7 r7 hg7 => ?_)
        have e1 : [Value.int .i64 (at_ C N (tf t) (tf d) ((0 : Nat) : Int))] = flatI ((plL C N t d).take (0 + 1)) := by rw [hnx, flatI_snoc]; rfl
        rw [e1] at hg7 ⊢
        repeat (first | refine l_val rfl rfl (by first | exact v_add rfl rfl (by omega) (by omega) | exact pureEval_ok rfl  | fail) ?_ | refine l_nil ?_ | refine c_region ?_ | refine x_then ?_ | refine x_block ?_  | fail)
        refine x_perm (List.perm_middle (l₁ := [_, _, _])).symm ?_
        exact x_back ⟨0 + 1, b7, c7, r7⟩ ⟨hlt, .inr hg7⟩ (by simp only; omega) (by repeat (first | exact EnvSub.nil | refine EnvSub.cons rfl (by first | rfl | (congr 1; done) | (exact congrArg (Value.int _) (by omega)) | (simp; done)) ?_)) (by repeat (first | exact MSub.nil | refine MSub.keep (by first | rfl | assumption) ?_ | refine MSub.drop ?_ | exact MSub.refl _))
      | succ p =>
        have hgr := (hgr' ()).resolve_left (by omega)
        simp only [plSl, plM]
        repeat (first | refine l_val rfl rfl (by first | exact pureEval_ok rfl | exact v_indexA rfl rfl rfl rfl (by omega) (by omega) (by with_reducible first | exact idx5 _   | fail) | exact v_load_at rfl (by repeat (first | exact List.Mem.head _ | apply List.Mem.tail)) rfl rfl (by first | assumption  | fail)  | fail) ?_ | refine l_nil ?_ | refine c_region ?_ | refine c_seq ?_ | refine x_then ?_ | refine r_buildSlice rfl rfl rfl rfl rfl rfl (by rfl) (fun _ => ?_) | refine c_dec_f rfl (by first | omega | exact fun h => h rfl  | fail) ?_ | refine c_exit ?_ | refine x_then_exit ?_ | refine x_block_same ?_  | fail)
        refine r_append (n := p + 1) (xs := flatI ((plL C N t d).take (p + 1))) (rest := r) (m := 1) (ys := [.int .i64 (at_ C N (tf t) (tf d) ((p + 1 : Nat) : Int))]) rfl rfl rfl rfl rfl rfl (news_own (by repeat (first | exact List.Mem.head _ | apply List.Mem.tail))) (by repeat (first | exact Rem.head | apply Rem.tail)) hgr rfl rfl (by decide) (by omega) (by unfold maxLen; omega) (fun b7 c7 r7 hg7 => ?_)
        have e1 : flatI ((plL C N t d).take (p + 1)) ++ [Value.int .i64 (at_ C N (tf t) (tf d) ((p + 1 : Nat) : Int))] = flatI ((plL C N t d).take (p + 1 + 1)) := by rw [hnx, flatI_snoc]
        rw [e1] at hg7 ⊢
        repeat (first | refine l_val rfl rfl (by first | exact v_add rfl rfl (by omega) (by omega) | exact pureEval_ok rfl  | fail) ?_ | refine l_nil ?_ | refine c_region ?_ | refine x_then ?_ | refine x_block ?_  | fail)
        refine x_perm (List.perm_middle (l₁ := [_, _, _])).symm ?_
        exact x_back ⟨p + 1 + 1, b7, c7, r7⟩ ⟨hlt, .inr hg7⟩ (by simp only; omega) (by repeat (first | exact EnvSub.nil | refine EnvSub.cons rfl (by first | rfl | (congr 1; done) | (exact congrArg (Value.int _) (by omega)) | (simp; done)) ?_)) (by repeat (first | exact MSub.nil | refine MSub.keep (by first | rfl | assumption) ?_ | refine MSub.drop ?_ | exact MSub.refl _))
    | some i =>
      have hfx : fI C C.length at1.toNat = i + 1 := fI_some a0 (by rw [List.take_length]; exact hi)
      have hi2 : into C (climb C j p).2 = some i := by rw [hat]; exact hi
      have hci := into_lt hi
      have hto' : (treeL (fI C C.length) (gT C N N) (R23.hT C N N))[at1.toNat]? = some (.int .i64 ((i : Int) + 1)) := by rw [hto, hfx]
      clear hto
      have hjN : j < N := by
        rcases Nat.lt_or_ge j N with h | h
        · exact h
        · have : j = N := by omega
          rw [this] at hi2
          rw [hi2] at hend; cases hend
      obtain ⟨x, hx, -⟩ := into_some hi
      obtain ⟨y, hy⟩ : ∃ y, d[i]? = some y := ⟨_, List.getElem?_eq_getElem (by omega)⟩
      obtain ⟨bc, oc, rfl, hcc⟩ := hB i (lkE x) (by simp [hx])
      have hec := ext_of hcc
      obtain ⟨bd, od, rfl, hcd⟩ := hDd i (inE y) (by simp [hy])
      have hed := ext_of hcd
      rw [Nat.mul_one] at hed
      have hyb := tf_bd hT hdur hci
      rw [tf_get hy] at hyb
      have hf : frm C i = x.fr := by unfold frm; rw [hx]
      have hsn := climb_snoc hcl hi2
      have hsum : tv + lsum (tf d) (climb C (j + 1) p).1 = tv + lsum (tf d) (climb C j p).1 + y := by
        rw [hsn, lsum_app]
        simp only [lsum, tf_get hy]
        omega
      have hii : ((i : Int) + 1 - 1).toNat = i := by omega
      rw [← hii] at hec hed
      repeat (first | refine l_val rfl rfl (by first | exact v_add rfl rfl (by omega) (by omega) | exact v_sub rfl rfl (by omega) (by omega) | exact pureEval_ok rfl | exact v_load_ext0 rfl (by assumption) rfl (by rfl) | exact v_index rfl rfl rfl rfl (by omega) (by omega) (by with_reducible first | exact idx5 _  | exact idx6 _ _   | fail) | exact v_indexA rfl rfl rfl rfl (by omega) (by omega) (by with_reducible first | exact idx5 _   | fail) | exact v_load_at rfl (by repeat (first | exact List.Mem.head _ | apply List.Mem.tail)) rfl rfl (by first | assumption  | fail)  | fail) ?_ | refine l_nil ?_ | refine c_region ?_ | refine c_seq ?_ | refine x_then ?_ | refine c_true rfl ?_ | refine c_block ?_ | refine c_skip ?_ | refine x_block ?_ | refine c_reads rfl (by decide +kernel) ?_ | refine q_val rfl rfl (by first | exact v_sub rfl rfl (by omega) (by omega) | exact pureEval_ok rfl | exact v_load rfl (by repeat (first | exact List.Mem.head _ | apply List.Mem.tail)) rfl (by rfl) | exact v_load_ext0 rfl (by assumption) rfl (by rfl) | exact v_index rfl rfl rfl rfl (by omega) (by omega) (by with_reducible first | exact idx5 _  | exact idx8 _ _ _   | fail) | exact v_indexA rfl rfl rfl rfl (by omega) (by omega) (by with_reducible first | exact idx5 _   | fail) | exact v_load_at rfl (by repeat (first | exact List.Mem.head _ | apply List.Mem.tail)) rfl rfl (by first | assumption  | fail)  | fail) ?_ | refine q_nil ?_  | fail)
      rw [← hf, show frm C i = (climb C (j + 1) p).2 by rw [hsn]]
      exact x_back (j + 1) ⟨hjN, by rw [hsn, List.length_append, hcl]; rfl⟩ (by omega) (by repeat (first | exact EnvSub.nil | refine EnvSub.cons rfl (by first | rfl | (congr 1; done) | (exact congrArg (Value.int _) (by omega)) | (simp; done)) ?_)) (MSub.refl _)
  · have hpe : p = N := by omega
    subst hpe
    cases p with
    | zero => omega
    | succ p =>
      have hgr := (hgr' ()).resolve_left (by omega)
      rw [List.take_of_length_le (by rw [plL_len]; omega)] at hgr
      simp only [plSl, plM]
      rw [List.take_of_length_le (by rw [plL_len]; omega)]
      repeat (first | refine l_val rfl rfl (by first | exact pureEval_ok rfl  | fail) ?_ | refine l_nil ?_ | refine c_region ?_ | refine c_seq ?_ | refine x_then ?_ | refine c_dec_f rfl (by first | omega  | fail) ?_ | refine c_ret ?_ | refine c_exit ?_ | refine x_then_exit ?_ | refine x_block_same ?_  | fail)
      exact x_ret rfl rfl (by repeat (first | exact Res.nil | (apply Res.tmp; rfl) | (apply Res.cell; rfl; exact (by repeat (first | exact List.Mem.head _ | apply List.Mem.tail)); rfl; rfl))) rfl (fun W hW => ⟨_, by rw [p1], by rw [p2]; exact .inr ⟨b, c, r, by rw [plL_len], by rw [plL_len]; exact hgr, Nat.le_of_not_lt (hW.own (b, _) (by repeat (first | exact List.Mem.head _ | apply List.Mem.tail))).1, (hW.own (b, _) (by repeat (first | exact List.Mem.head _ | apply List.Mem.tail))).2⟩, hW.below⟩)
end R23
end Go.Proofs

set_option linter.unusedSectionVars false
set_option linter.unusedVariables false
set_option linter.unusedSimpArgs false
namespace Go.Proofs
open Go.RowKit Go.Kin Go.Kin.St Go.Kin.Ct Go.Kin.Sg
namespace R24
/-- the times of a position -/
def tmL (l : List Int) : List Int := l.map fun x => x - 1
theorem tmL_tf {l : List Int} {q : Nat} (h : q < l.length) : R22.tf (tmL l) q = kn l q - 1 := by
  unfold R22.tf tmL
  rw [List.getD_eq_getElem?_getD, List.getElem?_map, kn_at h]; rfl
theorem tmL_tf' {l : List Int} {q : Nat} (h : q < l.length) : R23.tf (tmL l) q = kn l q - 1 := by
  unfold R23.tf tmL
  rw [List.getD_eq_getElem?_getD, List.getElem?_map, kn_at h]; rfl
theorem tmL_len {l : List Int} : (tmL l).length = l.length := List.length_map ..
section
variable {N t : Nat} {L C : List Lk} {wt pa : List Int}
theorem tm_bd (hk : keptP ⟨N, t, L, C⟩ pa) (hj : Dj ⟨N, t, L, C⟩ wt (t + 1) pa) (ht : t ≤ 15) : ∀ x ∈ pa, 1 ≤ x ∧ x ≤ (t : Int) + 1 := fun x hx => by
  obtain ⟨q, hq, rfl⟩ := List.mem_iff_getElem.1 hx
  have hl : pa.length = N := hj.len
  have h1 := hk.1 q (show q < N by omega)
  have h2 := hj.bd q
  rw [kn_get (List.getElem?_eq_getElem hq)] at h1 h2
  push_cast at h2
  omega
theorem tm_tmB (hk : keptP ⟨N, t, L, C⟩ pa) (hj : Dj ⟨N, t, L, C⟩ wt (t + 1) pa) (ht : t ≤ 15) : ∀ x ∈ tmL pa, 0 ≤ x ∧ x ≤ 1125899906842624 := fun x hx => by
  unfold tmL at hx
  obtain ⟨y, hy, rfl⟩ := List.mem_map.1 hx
  have := tm_bd hk hj ht y hy
  omega
theorem tm_meets (h0 : R22.chk N L = 0) (hk : keptP ⟨N, t, L, C⟩ pa) (hj : Dj ⟨N, t, L, C⟩ wt (t + 1) pa) (ht : t ≤ 15) (hF : Fine N L) : R22.mtV N L (tmL pa) = .tuple ⟨[.bool true, .int .i64 0]⟩ := by
  have hl : pa.length = N := hj.len
  have h1 := R22.mt_ok (t := tmL pa) h0 (by rw [tmL_len, hl]) (by
    unfold R22.tmB
    rw [List.all_eq_true]
    intro x hx
    have := tm_tmB hk hj ht x hx
    exact decide_eq_true (show 0 ≤ x ∧ x ≤ 1152921504606846976 by omega))
  unfold R22.mtV
  rw [h1.1, h1.2]
  congr 3
  unfold R22.metB
  rw [List.all_eq_true.2]
  intro x hx
  obtain ⟨f1, f2, f3, f4, _⟩ := hF x hx
  have := hk.2 x hx
  unfold R22.lkB
  rw [tmL_tf (by omega), tmL_tf (by omega)]
  exact decide_eq_true (by omega)
theorem tm_at (hT : Tree N C) (hk : keptP ⟨N, t, L, C⟩ pa) (hj : Dj ⟨N, t, L, C⟩ wt (t + 1) pa) : ∀ (c q : Nat), q < N → (chain C N q).length = c → at_ C N (R23.tf (tmL pa)) (R23.tf wt) q = kn pa q - 1
  | 0, q, hq, hc => by
    have hl : pa.length = N := hj.len
    cases hi : into C (q : Int) with
    | some i =>
      obtain ⟨q', _, _, _, h4⟩ := at_up hT (t := R23.tf (tmL pa)) (d := R23.tf wt) hq hi
      omega
    | none => rw [at_top hi, tmL_tf' (by omega)]
  | c + 1, q, hq, hc => by
    have hl : pa.length = N := hj.len
    cases hi : into C (q : Int) with
    | none => rw [(Tree.top hi).1] at hc; cases hc
    | some i =>
      obtain ⟨x, hx, hxq⟩ := into_some hi
      obtain ⟨r, g1, g2, g3, g4⟩ := at_up hT (t := R23.tf (tmL pa)) (d := R23.tf wt) hq hi
      have hfr : frm C i = x.fr := by unfold frm; rw [hx]
      have hr : r = x.fr.toNat := by omega
      have ih := tm_at hT hk hj c r g1 (by omega)
      obtain ⟨j1, j2⟩ := hj.yes q i x hq hi hx (hk.1 q hq)
      rw [g3, ih, j2, ← hr]
      show _ + wt.getD i 0 = _
      omega
theorem tm_play (hT : Tree N C) (hk : keptP ⟨N, t, L, C⟩ pa) (hj : Dj ⟨N, t, L, C⟩ wt (t + 1) pa) : R23.plL C N (tmL pa) wt = tmL pa := by
  have hl : pa.length = N := hj.len
  refine List.ext_getElem? fun p => ?_
  unfold R23.plL
  by_cases hp : p < N
  · rw [List.getElem?_map, List.getElem?_range hp]
    show some (at_ C N (R23.tf (tmL pa)) (R23.tf wt) p) = _
    rw [tm_at hT hk hj _ p hp rfl]
    unfold tmL
    rw [List.getElem?_map, kn_at (by omega)]; rfl
  · rw [List.getElem?_eq_none (by simp; omega), List.getElem?_eq_none (by rw [tmL_len]; omega)]
end
/-! ## Durations -/
def shr (sh : List Int) (i : Nat) (x : Lk) : Int := x.lo + (match sh[i]? with | some s => s % (x.hi - x.lo + 1) | none => 0)
def durT (C : List Lk) (sh : List Int) (k : Nat) : List Int := (List.range k).map fun i => match C[i]? with | some x => shr sh i x | none => 0
theorem durT_len {C : List Lk} {sh : List Int} {k : Nat} : (durT C sh k).length = k := by unfold durT; simp
theorem durT_succ {C : List Lk} {sh : List Int} {k : Nat} {x : Lk} (h : C[k]? = some x) : durT C sh (k + 1) = durT C sh k ++ [shr sh k x] := by unfold durT; rw [List.range_succ, List.map_append, List.map_singleton, h]
theorem durT_get {C : List Lk} {sh : List Int} {k i : Nat} {x : Lk} (hi : i < k) (h : C[i]? = some x) : (durT C sh k).getD i 0 = shr sh i x := by
  unfold durT
  rw [List.getD_eq_getElem?_getD, List.getElem?_map, List.getElem?_range hi]
  simp only [Option.map_some, Option.getD_some]
  rw [h]
theorem shr_bd {sh : List Int} {i : Nat} {x : Lk} (hx : x.lo ≤ x.hi) : x.lo ≤ shr sh i x ∧ shr sh i x ≤ x.hi := by
  unfold shr
  cases sh[i]? with
  | none => simp only; omega
  | some s =>
    have h1 := Int.emod_nonneg s (show x.hi - x.lo + 1 ≠ 0 by omega)
    have h2 := Int.emod_lt_of_pos s (show 0 < x.hi - x.lo + 1 by omega)
    simp only; omega
end R24
end Go.Proofs

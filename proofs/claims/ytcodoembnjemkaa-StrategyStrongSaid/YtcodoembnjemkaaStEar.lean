/- Uncertain networks: Play, as the program has it, walked. -/
import Derived.Test.YtcodoembnjemkaaCtM
import Derived.Test.YtcodoembnjemkaaStMts
import Derived.Test.YtcodoembnjemkaaCtT
set_option maxRecDepth 100000
set_option maxHeartbeats 400000000
set_option linter.unusedSectionVars false
set_option linter.unusedVariables false
set_option linter.unusedSimpArgs false
namespace Go.Proofs
open Go.RowKit Go.Kin Go.Kin.St Go.Kin.Ct
open R22
namespace R23
theorem Dur.of {C : List Lk} {d : List Int} (h1 : d.length = C.length) (h2 : ∀ (i : Nat) (x : Lk) (y : Int), C[i]? = some x -> d[i]? = some y -> x.lo <= y /\ y <= x.hi) : Dur C d := ⟨h1, fun i hi => by
 have hx := List.getElem?_eq_getElem hi
 have hy := List.getElem?_eq_getElem (show i < d.length by omega)
 have := h2 i _ _ hx hy
 rw [tf_get hy]
 unfold loOf hiOf
 rw [hx]
 exact this⟩
theorem Dur.at {C : List Lk} {d : List Int} (h : Dur C d) {i : Nat} {x : Lk} {y : Int} (hx : C[i]? = some x) (hy : d[i]? = some y) : x.lo <= y /\ y <= x.hi := by
 have := h.2 i (List.getElem?_eq_some_iff.1 hx).1
 rw [tf_get hy] at this
 unfold loOf hiOf at this
 rw [hx] at this
 exact this
structure PS where
 p : Nat
 b : Nat
 c : Nat
 r : List Value
/-- the list so far -/
def plSl (k b cap : Nat) : Value := match k with
 | 0 => .slice none 0 0
 | k + 1 => .slice (some ⟨b, 0, none⟩) (k + 1) cap
def plM (l : List Int) (k b : Nat) (rest : List Value) : List (Nat × Obj) := match k with
 | 0 => []
 | k + 1 => [(b, .cells ⟨flatI (l.take (k + 1)) ++ rest⟩ 3 (0, 0))]
theorem Play_calls (u : Un) (T D : Option Addr) (ct cd : Nat) (t d : List Int) (w : World) (hA : u.In w) (hl : u.L.length <= 1000) (hTt : Kin.At w T 1 (t.map inE)) (hDd : Kin.At w D 1 (d.map inE)) (htl : t.length <= 9223372036854775807) (hdl : d.length <= 9223372036854775807) :
  Calls Try.prog 21 ⟨[.agg ⟨u.v⟩, .slice T t.length ct, .slice D d.length cd]⟩ w (PlayQ u.n u.L u.C t d w) := by
 have hck : ∀ (mem : List (Nat × Obj)) (W : World), SatW w (base w) noJ mem W -> Calls Try.prog 55 ⟨[.agg ⟨u.v⟩]⟩ W (ChkQ u.n u.L u.C W) := fun mem W hW => check_calls' u W (hA.sat hW) hl
 have hB := hA.c
 obtain ⟨n, A, cap, L, B, cab, C⟩ := u
 simp only [Un.v] at hl hck hB ⊢
 refine fEn Try.func21 rfl Try.ntmps21 rfl rfl (sWn w) ?_
 by_cases h0 : chkU n L C = 0
 rotate_left
 ·obtain ⟨p1, p2⟩ := plE_chk (t := t) (d := d) h0
  repeat (first|refine lVa rfl rfl (by first|exact pEv rfl|exact vLd rfl (by repeat constructor) rfl (by rfl)|fail) ?_|refine lNi ?_|refine cRg ?_|refine cSq ?_|refine xTh ?_|refine r_box rfl rfl rfl rfl (fun _ => ?_)|fail)
  refine r_callI (ι := (Nat -> Int) × (Nat -> Int) × (Nat -> Nat)) (v := fun i => .tuple ⟨[.agg ⟨treeL i.1 i.2.1 i.2.2⟩, .int .i64 (chkU n L C)]⟩) rfl rfl rfl (fun W hW => (hck _ W hW).mono fun e W' ⟨g1, g2⟩ => ?_) ?_
  ·rcases g2 with ⟨g2, g3⟩ | ⟨_, f, g, h, g2⟩
   ·exact absurd g2 h0
   ·exact ⟨(f, g, h), g2, g1⟩
  rintro ⟨f, g, h⟩
  simp only
  repeat (first|refine r_alloc rfl rfl rfl (treeZ rfl) (fun b2 => ?_)|refine rSt (vs := treeL _ _ _) rfl rfl rfl rfl rfl treeL_beq treeL_one (by repeat constructor) (putK_all (treeL_len.trans treeL_len.symm)) ?_|refine lVa rfl rfl (by first|exact pEv rfl|fail) ?_|refine lNi ?_|refine cRg ?_|refine cSq ?_|refine xTh ?_|refine c_dec_t rfl (by first|omega|fail) ?_|refine c_ret ?_|refine xTr ?_|fail)
  exact x_ret rfl rfl (by repeat constructor) rfl (fun W hW => ⟨.slice none 0 0, by rw [p1], by rw [p2]; exact RowQ.nil, hW.below⟩)
 obtain ⟨n1, n2, l1, l2, hF, hT⟩ := chkU_ok h0
 obtain ⟨N, rfl⟩ : ∃ N : Nat, n = N := ⟨n.toNat, by omega⟩
 rw [Int.toNat_natCast] at hT
 repeat (first|refine lVa rfl rfl (by first|exact pEv rfl|exact vLd rfl (by repeat constructor) rfl (by rfl)|fail) ?_|refine lNi ?_|refine cRg ?_|refine cSq ?_|refine xTh ?_|refine r_box rfl rfl rfl rfl (fun _ => ?_)|fail)
 refine r_call (v := .tuple ⟨[.agg ⟨theTree C N⟩, .int .i64 0]⟩) rfl rfl rfl (fun W hW => (hck _ W hW).mono fun e W' ⟨g1, g2⟩ => ?_) ?_
 ·rcases g2 with ⟨_, g3⟩ | ⟨g2, _⟩
  ·rw [Int.toNat_natCast] at g3
   exact ⟨g3, g1⟩
  ·exact absurd h0 g2
 have hfin : ¬ (t.length = (N : Int) /\ Times t /\ Dur C d) -> plE N L C t d = 1 /\ plR N L C t d = [] := fun h => plE_arg h0 h
 have hfinOK : (t.length = (N : Int) /\ Times t /\ Dur C d) -> plE N L C t d = 0 /\ plR N L C t d = plL C N t d := fun h => by
  have := plE_ok (n := N) (L := L) (C := C) (t := t) (d := d) ⟨h0, h⟩
  rw [Int.toNat_natCast] at this
  exact this
 unfold theTree
 by_cases c1 : t.length = N
 rotate_left
 ·obtain ⟨p1, p2⟩ := hfin (fun h => c1 (by omega))
  repeat (first|refine r_alloc rfl rfl rfl (treeZ rfl) (fun b2 => ?_)|refine rSt (vs := treeL _ _ _) rfl rfl rfl rfl rfl treeL_beq treeL_one (by repeat constructor) (putK_all (treeL_len.trans treeL_len.symm)) ?_|refine lVa rfl rfl (by first|exact pEv rfl|exact vLd rfl (by repeat constructor) rfl (by rfl)|fail) ?_|refine lNi ?_|refine cRg ?_|refine cSq ?_|refine xTh ?_|refine l_skip rfl rfl ?_|refine c_true rfl ?_|refine c_false rfl ?_|refine cSk ?_|refine c_ret ?_|refine xTr ?_|refine l_dec_t rfl rfl rfl rfl rfl (by first|omega|fail) ?_|fail)
  exact x_ret rfl rfl (by repeat constructor) rfl (fun W hW => ⟨.slice none 0 0, by rw [p1], by rw [p2]; exact RowQ.nil, hW.below⟩)
 by_cases c2 : d.length = C.length
 rotate_left
 ·obtain ⟨p1, p2⟩ := hfin (fun h => c2 h.2.2.1)
  repeat (first|refine r_alloc rfl rfl rfl (treeZ rfl) (fun b2 => ?_)|refine rSt (vs := treeL _ _ _) rfl rfl rfl rfl rfl treeL_beq treeL_one (by repeat constructor) (putK_all (treeL_len.trans treeL_len.symm)) ?_|refine lVa rfl rfl (by first|exact pEv rfl|exact vLd rfl (by repeat constructor) rfl (by rfl)|fail) ?_|refine lNi ?_|refine cRg ?_|refine cSq ?_|refine xTh ?_|refine l_skip rfl rfl ?_|refine c_true rfl ?_|refine c_false rfl ?_|refine cSk ?_|refine c_ret ?_|refine xTr ?_|refine l_dec_t rfl rfl rfl rfl rfl (by first|omega|fail) ?_|refine l_dec_f rfl rfl rfl rfl rfl (by first|omega|fail) ?_|fail)
  exact x_ret rfl rfl (by repeat constructor) rfl (fun W hW => ⟨.slice none 0 0, by rw [p1], by rw [p2]; exact RowQ.nil, hW.below⟩)
 repeat (first|refine r_alloc rfl rfl rfl (treeZ rfl) (fun b2 => ?_)|refine rSt (vs := treeL _ _ _) rfl rfl rfl rfl rfl treeL_beq treeL_one (by repeat constructor) (putK_all (treeL_len.trans treeL_len.symm)) ?_|refine lVa rfl rfl (by first|exact pEv rfl|exact vLd rfl (by repeat constructor) rfl (by rfl)|fail) ?_|refine lNi ?_|refine cRg ?_|refine cSq ?_|refine xTh ?_|refine c_false rfl ?_|refine cSk ?_|refine l_dec_f rfl rfl rfl rfl rfl (by first|omega|exact fun h => h rfl|fail) ?_|fail)
 refine r_call rfl rfl rfl (fun W hW => containsN_calls T ct t W (hTt.sat hW) htl) ?_
 by_cases c3 : Times t
 rotate_left
 ·obtain ⟨p1, p2⟩ := hfin (fun h => c3 h.2.1)
  rw [@decide_eq_true _ (Classical.propDecidable _) c3]
  repeat (first|refine lVa rfl rfl (by first|exact pEv rfl|fail) ?_|refine lNi ?_|refine cRg ?_|refine cSq ?_|refine xTh ?_|refine c_true rfl ?_|refine c_ret ?_|refine xTr ?_|fail)
  exact x_ret rfl rfl (by repeat constructor) rfl (fun W hW => ⟨.slice none 0 0, by rw [p1], by rw [p2]; exact RowQ.nil, hW.below⟩)
 rw [@decide_eq_false _ (Classical.propDecidable _) (fun h2 : ¬ Times t => h2 c3)]
 repeat (first|refine lVa rfl rfl (by first|exact pEv rfl|fail) ?_|refine lNi ?_|refine cRg ?_|refine cSq ?_|refine xTh ?_|refine c_false rfl ?_|refine cBl ?_|refine cSk ?_|fail)
 rename_i b1
 refine c_loop (ι := Nat) (fun k => k <= d.length /\ ∀ (i : Nat) (x : Lk) (y : Int), i < k -> C[i]? = some x -> d[i]? = some y -> x.lo <= y /\ y <= x.hi) (fun k => [(1, .slice T t.length ct), (2, .slice D d.length cd), (3, .pointer (some ⟨b1, 0, none⟩)), (6, .slice none 0 0), (7, .int .i64 0), (8, .pointer (some ⟨b2, 0, none⟩)), (39, .slice D d.length cd), (40, .int .i64 d.length), (41, .int .i64 k)])
  (fun _ => [(b2, .cells ⟨treeL (fI C C.length) (gT C N N) (R23.hT C N N)⟩ 111 (0, 0)), (b1, .cells ⟨[.int .i64 N, .slice A L.length cap, .slice B C.length cab]⟩ 24 (0, 0))]) (fun k => d.length - k) 0 ⟨Nat.zero_le _, fun i x y h => by omega⟩ (by repeat (first|exact .nil|refine .cons rfl (by first|rfl|(congr 1; done)|exact congrArg _ (by omega)|(simp; done)) ?_)) (by repeat (first|exact .nil|refine .keep (by first|rfl|assumption) ?_|refine .drop ?_|exact MSub.refl _)) ?_
 rintro k ⟨hk, hdr⟩
 by_cases hlt : k < d.length
 ·obtain ⟨y, hy⟩ : ∃ y, d[k]? = some y := ⟨_, List.getElem?_eq_getElem hlt⟩
  obtain ⟨x, hx⟩ : ∃ x, C[k]? = some x := ⟨_, List.getElem?_eq_getElem (by omega)⟩
  obtain ⟨bd, od, rfl, hcd⟩ := hDd k (inE y) (by simp [hy])
  have hed := ext_of hcd
  rw [Nat.mul_one] at hed
  obtain ⟨bc, oc, rfl, hcc⟩ := hB k (lkE x) (by simp [hx])
  have hec := ext_of hcc
  by_cases hg : x.lo <= y /\ y <= x.hi
  ·repeat (first|refine lVa rfl rfl (by first|exact v_add rfl rfl (by omega) (by omega)|exact pEv rfl|exact vLd rfl (by repeat constructor) rfl (by rfl)|exact vL0 rfl (by assumption) rfl (by rfl)|exact vLe rfl (by assumption) rfl (by rfl)|exact v_index rfl rfl rfl rfl (by omega) (by omega) (by with_reducible first|exact idx2 _ _|exact idx4 _ _ _|fail)|fail) ?_|refine lNi ?_|refine cRg ?_|refine cSq ?_|refine xTh ?_|refine c_dec_t rfl (by first|omega|fail) ?_|refine c_dec_f rfl (by first|omega|exact fun h => h rfl|fail) ?_|refine cBl ?_|refine cSk ?_|refine x_block ?_|refine l_dec_f rfl rfl rfl rfl rfl (by first|omega|fail) ?_|fail)
   refine x_back (k + 1) ⟨hlt, fun i x' y' hi hx' hy' => ?_⟩ (by omega) (by repeat (first|exact .nil|refine .cons rfl (by first|rfl|(congr 1; done)|exact congrArg _ (by omega)|(simp; done)) ?_)) (by repeat (first|exact .nil|refine .keep (by first|rfl|assumption) ?_|refine .drop ?_|exact MSub.refl _))
   by_cases e : i = k
   ·subst e
    rw [hx] at hx'; rw [hy] at hy'
    cases hx'; cases hy'
    exact hg
   ·exact hdr i x' y' (by omega) hx' hy'
  ·obtain ⟨p1, p2⟩ := hfin (fun h => hg (h.2.2.at hx hy))
   repeat' (first|refine lVa rfl rfl (by first|exact pEv rfl|exact vLd rfl (by repeat constructor) rfl (by rfl)|exact vL0 rfl (by assumption) rfl (by rfl)|exact vLe rfl (by assumption) rfl (by rfl)|exact v_index rfl rfl rfl rfl (by omega) (by omega) (by with_reducible first|exact idx2 _ _|exact idx4 _ _ _|fail)|fail) ?_|refine lNi ?_|refine cRg ?_|refine cSq ?_|refine xTh ?_|refine l_skip rfl rfl ?_|refine c_true rfl ?_|refine c_dec_t rfl (by first|omega|fail) ?_|refine cBl ?_|refine cSk ?_|refine c_ret ?_|refine xTr ?_|refine xBr ?_|refine l_dec rfl rfl rfl rfl rfl (fun _ => ?_) (fun _ => ?_)|fail)
   all_goals first
    | exact x_ret rfl rfl (by repeat constructor) rfl (fun W hW => ⟨.slice none 0 0, by rw [p1], by rw [p2]; exact RowQ.nil, hW.below⟩)
    | exact absurd (show x.lo <= y /\ y <= x.hi by omega) hg
 have hke : k = d.length := by omega
 subst hke
 have hdur : Dur C d := Dur.of c2 fun i x y h1 h2 => hdr i x y (List.getElem?_eq_some_iff.1 h2).1 h1 h2
 obtain ⟨p1, p2⟩ := hfinOK ⟨by omega, c3, hdur⟩
 clear hk hlt hdr hfin hfinOK
 repeat (first|refine lVa rfl rfl (by first|exact pEv rfl|exact vLd rfl (by repeat constructor) rfl (by rfl)|fail) ?_|refine lNi ?_|refine cRg ?_|refine cSq ?_|refine xTh ?_|refine c_dec_f rfl (by first|omega|exact fun h => h rfl|fail) ?_|refine cBl ?_|refine c_exit ?_|refine xTe ?_|refine xBs ?_|fail)
 refine c_loop (ι := PS) (fun s => s.p <= N /\ (s.p = 0 ∨ Grow 1 s.p (flatI ((plL C N t d).take s.p)) s.c s.r)) (fun s => [(1, .slice T t.length ct), (2, .slice D d.length cd), (3, .pointer (some ⟨b1, 0, none⟩)), (6, plSl s.p s.b s.c), (7, .int .i64 0), (8, .pointer (some ⟨b2, 0, none⟩)), (66, .int .i64 N), (67, .int .i64 s.p)])
  (fun s => (b2, .cells ⟨treeL (fI C C.length) (gT C N N) (R23.hT C N N)⟩ 111 (0, 0)) :: (b1, .cells ⟨[.int .i64 N, .slice A L.length cap, .slice B C.length cab]⟩ 24 (0, 0)) :: plM (plL C N t d) s.p s.b s.r) (fun s => N - s.p) ⟨0, 0, 0, []⟩ ⟨Nat.zero_le _, .inl rfl⟩ (by repeat (first|exact .nil|refine .cons rfl (by first|rfl|(congr 1; done)|exact congrArg _ (by omega)|(simp; done)) ?_)) (by repeat (first|exact .nil|refine .keep (by first|rfl|assumption) ?_|refine .drop ?_|exact MSub.refl _)) ?_
 rintro ⟨p, b, c, r⟩ ⟨hp, hgr⟩
 simp only at hp hgr ⊢
 have hgr' := fun (_ : Unit) => hgr
 clear hgr
 by_cases hlt : p < N
 ·obtain ⟨rt, r1, r2, -⟩ := hT.root_in hlt
  have hro := treeL_g (f := fI C C.length) (g := gT C N N) (h := R23.hT C N N) (p := p) (by omega)
  have hgp : gT C N N p = rt := by unfold gT; rw [if_pos hlt]; exact r2
  rw [hgp] at hro
  obtain ⟨tv, htv⟩ : ∃ v, t[rt]? = some v := ⟨_, List.getElem?_eq_getElem (by omega)⟩
  obtain ⟨bt, ot, rfl, hct⟩ := hTt rt (inE tv) (by simp [htv])
  have het := ext_of hct
  rw [Nat.mul_one] at het
  have htb := c3 tv (List.mem_of_getElem? htv)
  have hend := hT.ends p hlt
  have h00 : tv + lsum (tf d) (climb C 0 p).1 = tv := by show tv + 0 = tv; omega
  repeat (first|refine lVa rfl rfl (by first|exact pEv rfl|exact vL0 rfl (by assumption) rfl (by rfl)|exact v_index rfl rfl rfl rfl (by omega) (by omega) (by with_reducible first|exact idx2 _ _|fail)|exact v_indexA rfl rfl rfl rfl (by omega) (by omega) (by with_reducible first|exact idx2 _ _|fail)|exact v_load_at rfl (by repeat constructor) rfl rfl (by first|assumption|fail)|fail) ?_|refine lNi ?_|refine cRg ?_|refine cSq ?_|refine xTh ?_|refine c_dec_t rfl (by first|omega|fail) ?_|refine cBl ?_|refine cSk ?_|fail)
  refine c_loop (ι := Nat) (fun j => j <= N /\ (climb C j p).1.length = j) (fun j => [(1, .slice (some ⟨bt, ot, none⟩) t.length ct), (2, .slice D d.length cd), (3, .pointer (some ⟨b1, 0, none⟩)), (6, plSl p b c), (7, .int .i64 0), (8, .pointer (some ⟨b2, 0, none⟩)), (66, .int .i64 N), (67, .int .i64 p), (12, .int .i64 (tv + lsum (tf d) (climb C j p).1)), (13, .int .i64 (climb C j p).2)])
   (fun _ => (b2, .cells ⟨treeL (fI C C.length) (gT C N N) (R23.hT C N N)⟩ 111 (0, 0)) :: (b1, .cells ⟨[.int .i64 N, .slice A L.length cap, .slice B C.length cab]⟩ 24 (0, 0)) :: plM (plL C N t d) p b r) (fun j => N - j) 0 ⟨Nat.zero_le _, rfl⟩ (by simp only [h00]; exact (by repeat (first|exact .nil|refine .cons rfl (by first|rfl|(congr 1; done)|exact congrArg _ (by omega)|(simp; done)) ?_))) (MSub.refl _) ?_
  rintro j ⟨hj, hcl⟩
  obtain ⟨a0, a1⟩ := climb_in hT.cal j p (by omega) (by omega)
  obtain ⟨at1, hat⟩ : ∃ a, (climb C j p).2 = a := ⟨_, rfl⟩
  have hsb := lsumD (j := j) (p := p) hT hdur
  rw [hcl] at hsb
  rw [hat] at a0 a1 ⊢
  have hto : (treeL (fI C C.length) (gT C N N) (R23.hT C N N))[at1.toNat]? = some (.int .i64 (fI C C.length at1.toNat)) := treeL_f (by omega)
  cases hi : into C at1 with
  | none =>
   have hfx : fI C C.length at1.toNat = 0 := fI_none a0 (by rw [List.take_length]; exact hi)
   have hst := climb_stop (C := C) (f := j) (p := p) (by rw [hat]; exact hi) (N - j)
   rw [show j + (N - j) = N by omega] at hst
   have hval : tv + lsum (tf d) (climb C j p).1 = at_ C N (tf t) (tf d) p := by
    unfold at_ chain
    rw [r2, Int.toNat_natCast, tf_get htv, hst]
   rw [hval]
   have hnx := plL_take (C := C) (N := N) (t := t) (d := d) hlt
   cases p with
   | zero =>
    simp only [plSl, plM]
    repeat (first|refine lVa rfl rfl (by first|exact pEv rfl|exact v_indexA rfl rfl rfl rfl (by omega) (by omega) (by with_reducible first|exact idx5 _|fail)|exact v_load_at rfl (by repeat constructor) rfl rfl (by first|assumption|fail)|fail) ?_|refine lNi ?_|refine cRg ?_|refine cSq ?_|refine xTh ?_|refine r_buildSlice rfl rfl rfl rfl rfl rfl (by rfl) (fun _ => ?_)|refine c_dec_f rfl (by first|omega|exact fun h => h rfl|fail) ?_|refine c_exit ?_|refine xTe ?_|refine xBs ?_|fail)
    refine r_append_nil (m := 1) (ys := [.int .i64 (at_ C N (tf t) (tf d) ((0 : Nat) : Int))]) rfl rfl rfl rfl rfl rfl (news_own (by repeat constructor)) rfl rfl (by decide) (by decide) (by decide) (fun b7 c7 r7 hg7 => ?_)
    have e1 : [Value.int .i64 (at_ C N (tf t) (tf d) ((0 : Nat) : Int))] = flatI ((plL C N t d).take (0 + 1)) := by rw [hnx, flatI_snoc]; rfl
    rw [e1] at hg7 ⊢
    repeat (first|refine lVa rfl rfl (by first|exact v_add rfl rfl (by omega) (by omega)|exact pEv rfl|fail) ?_|refine lNi ?_|refine cRg ?_|refine xTh ?_|refine x_block ?_|fail)
    refine x_perm (List.perm_middle (l₁ := [_, _, _])).symm ?_
    exact x_back ⟨0 + 1, b7, c7, r7⟩ ⟨hlt, .inr hg7⟩ (by simp only; omega) (by repeat (first|exact .nil|refine .cons rfl (by first|rfl|(congr 1; done)|exact congrArg _ (by omega)|(simp; done)) ?_)) (by repeat (first|exact .nil|refine .keep (by first|rfl|assumption) ?_|refine .drop ?_|exact MSub.refl _))
   | succ p =>
    have hgr := (hgr' ()).resolve_left (by omega)
    simp only [plSl, plM]
    repeat (first|refine lVa rfl rfl (by first|exact pEv rfl|exact v_indexA rfl rfl rfl rfl (by omega) (by omega) (by with_reducible first|exact idx5 _|fail)|exact v_load_at rfl (by repeat constructor) rfl rfl (by first|assumption|fail)|fail) ?_|refine lNi ?_|refine cRg ?_|refine cSq ?_|refine xTh ?_|refine r_buildSlice rfl rfl rfl rfl rfl rfl (by rfl) (fun _ => ?_)|refine c_dec_f rfl (by first|omega|exact fun h => h rfl|fail) ?_|refine c_exit ?_|refine xTe ?_|refine xBs ?_|fail)
    refine r_append (n := p + 1) (xs := flatI ((plL C N t d).take (p + 1))) (rest := r) (m := 1) (ys := [.int .i64 (at_ C N (tf t) (tf d) ((p + 1 : Nat) : Int))]) rfl rfl rfl rfl rfl rfl (news_own (by repeat constructor)) (by repeat (first|exact Rem.head|apply Rem.tail)) hgr rfl rfl (by decide) (by omega) (by unfold maxLen; omega) (fun b7 c7 r7 hg7 => ?_)
    have e1 : flatI ((plL C N t d).take (p + 1)) ++ [Value.int .i64 (at_ C N (tf t) (tf d) ((p + 1 : Nat) : Int))] = flatI ((plL C N t d).take (p + 1 + 1)) := by rw [hnx, flatI_snoc]
    rw [e1] at hg7 ⊢
    repeat (first|refine lVa rfl rfl (by first|exact v_add rfl rfl (by omega) (by omega)|exact pEv rfl|fail) ?_|refine lNi ?_|refine cRg ?_|refine xTh ?_|refine x_block ?_|fail)
    refine x_perm (List.perm_middle (l₁ := [_, _, _])).symm ?_
    exact x_back ⟨p + 1 + 1, b7, c7, r7⟩ ⟨hlt, .inr hg7⟩ (by simp only; omega) (by repeat (first|exact .nil|refine .cons rfl (by first|rfl|(congr 1; done)|exact congrArg _ (by omega)|(simp; done)) ?_)) (by repeat (first|exact .nil|refine .keep (by first|rfl|assumption) ?_|refine .drop ?_|exact MSub.refl _))
  | some i =>
   have hfx : fI C C.length at1.toNat = i + 1 := fI_some a0 (by rw [List.take_length]; exact hi)
   have hi2 : into C (climb C j p).2 = some i := by rw [hat]; exact hi
   have hci := into_lt hi
   have hto' : (treeL (fI C C.length) (gT C N N) (R23.hT C N N))[at1.toNat]? = some (.int .i64 ((i : Int) + 1)) := by rw [hto, hfx]
   clear hto
   have hjN : j < N := by
    rcases Nat.lt_or_ge j N with h | h
    ·exact h
    ·have : j = N := by omega
     rw [this] at hi2
     rw [hi2] at hend; cases hend
   obtain ⟨x, hx, -⟩ := into_some hi
   obtain ⟨y, hy⟩ : ∃ y, d[i]? = some y := ⟨_, List.getElem?_eq_getElem (by omega)⟩
   obtain ⟨bc, oc, rfl, hcc⟩ := hB i (lkE x) (by simp [hx])
   have hec := ext_of hcc
   obtain ⟨bd, od, rfl, hcd⟩ := hDd i (inE y) (by simp [hy])
   have hed := ext_of hcd
   rw [Nat.mul_one] at hed
   have hyb := tf_bd hT hdur hci
   rw [tf_get hy] at hyb
   have hf : frm C i = x.fr := by unfold frm; rw [hx]
   have hsn := climb_snoc hcl hi2
   have hsum : tv + lsum (tf d) (climb C (j + 1) p).1 = tv + lsum (tf d) (climb C j p).1 + y := by
    rw [hsn, lsum_app]
    simp only [lsum, tf_get hy]
    omega
   have hii : ((i : Int) + 1 - 1).toNat = i := by omega
   rw [<- hii] at hec hed
   repeat (first|refine lVa rfl rfl (by first|exact v_add rfl rfl (by omega) (by omega)|exact v_sub rfl rfl (by omega) (by omega)|exact pEv rfl|exact vL0 rfl (by assumption) rfl (by rfl)|exact v_index rfl rfl rfl rfl (by omega) (by omega) (by with_reducible first|exact idx5 _|exact idx6 _ _|fail)|exact v_indexA rfl rfl rfl rfl (by omega) (by omega) (by with_reducible first|exact idx5 _|fail)|exact v_load_at rfl (by repeat constructor) rfl rfl (by first|assumption|fail)|fail) ?_|refine lNi ?_|refine cRg ?_|refine cSq ?_|refine xTh ?_|refine c_true rfl ?_|refine cBl ?_|refine cSk ?_|refine x_block ?_|refine c_reads rfl (by decide +kernel) ?_|refine q_val rfl rfl (by first|exact v_sub rfl rfl (by omega) (by omega)|exact pEv rfl|exact vLd rfl (by repeat constructor) rfl (by rfl)|exact vL0 rfl (by assumption) rfl (by rfl)|exact v_index rfl rfl rfl rfl (by omega) (by omega) (by with_reducible first|exact idx5 _|exact idx8 _ _ _|fail)|exact v_indexA rfl rfl rfl rfl (by omega) (by omega) (by with_reducible first|exact idx5 _|fail)|exact v_load_at rfl (by repeat constructor) rfl rfl (by first|assumption|fail)|fail) ?_|refine q_nil ?_|fail)
   rw [<- hf, show frm C i = (climb C (j + 1) p).2 by rw [hsn]]
   exact x_back (j + 1) ⟨hjN, by rw [hsn, List.length_append, hcl]; rfl⟩ (by omega) (by repeat (first|exact .nil|refine .cons rfl (by first|rfl|(congr 1; done)|exact congrArg _ (by omega)|(simp; done)) ?_)) (MSub.refl _)
 ·have hpe : p = N := by omega
  subst hpe
  cases p with
  | zero => omega
  | succ p =>
   have hgr := (hgr' ()).resolve_left (by omega)
   rw [List.take_of_length_le (by rw [plL_len]; omega)] at hgr
   simp only [plSl, plM]
   rw [List.take_of_length_le (by rw [plL_len]; omega)]
   repeat (first|refine lVa rfl rfl (by first|exact pEv rfl|fail) ?_|refine lNi ?_|refine cRg ?_|refine cSq ?_|refine xTh ?_|refine c_dec_f rfl (by first|omega|fail) ?_|refine c_ret ?_|refine c_exit ?_|refine xTe ?_|refine xBs ?_|fail)
   exact x_ret rfl rfl (by repeat constructor) rfl (fun W hW => ⟨_, by rw [p1], by rw [p2]; exact .inr ⟨b, c, r, by rw [plL_len], by rw [plL_len]; exact hgr, Nat.le_of_not_lt (hW.own (b, _) (by repeat constructor)).1, (hW.own (b, _) (by repeat constructor)).2⟩, hW.below⟩)
end R23
end Go.Proofs

namespace Go.Proofs
open Go.RowKit Go.Kin Go.Kin.St Go.Kin.Ct Go.Kin.Sg
namespace R24
section
variable {N t : Nat} {L C : List Lk} {wt pa : List Int}
end
/-! ## Durations -/
def shr (sh : List Int) (i : Nat) (x : Lk) : Int := x.lo + (match sh[i]? with | some s => s % (x.hi - x.lo + 1) | none => 0)
end R24
end Go.Proofs

namespace Go.Proofs
open Go.RowKit Go.Kin Go.Kin.St Go.Kin.Ct
open R22
namespace R23
/-- a chain as the specification lists it -/
def chL (C : List Lk) (N : Nat) (p : Int) : List Int := (chain C N p).reverse.map fun i : Nat => (i : Int)
def chV (C : List Lk) (N : Nat) (p : Int) (b c : Nat) : Value := .tuple ⟨[.slice (some ⟨b, 0, none⟩) (chL C N p).length c, .int .i64 (root C N p), .bool true]⟩
def gF (C : List Lk) (a : List Nat) (i : Nat) : Int := if i ∈ a then 0 else hiOf C i
end R23
end Go.Proofs

namespace Go.Proofs
open Go.RowKit Go.Kin Go.Kin.St Go.Kin.Ct
open R22
namespace R23
/-- a step, as it lies -/
def edE (e : Ed) : List Value := [.int .i64 (e.a : Int), .int .i64 (e.b : Int), .int .i64 e.w]
/-- rows of steps in new memory -/
structure ES where
 i : Nat
 b : Nat
 c : Nat
 r : List Value
end R23
end Go.Proofs

namespace Go.Proofs
open Go.RowKit Go.Kin Go.Kin.St Go.Kin.Ct
open R22
namespace R23
end R23
end Go.Proofs

namespace Go.Proofs
open Go.RowKit Go.Kin Go.Kin.St Go.Kin.Ct
open R22
namespace R23
/-- the least times that keep all steps, if there are such -/
noncomputable def str (n : Int) (L C : List Lk) : Option (Nat -> Int) := if chkU n L C = 0 then found (redE C n.toNat L) (n.toNat + 1) (fun _ => 0) else none
theorem str_bad {n : Int} {L C : List Lk} (h : chkU n L C ≠ 0) : str n L C = none := if_neg h
theorem str_in {n : Int} {L C : List Lk} (h : chkU n L C = 0) : In n.toNat (redE C n.toNat L) := by
 obtain ⟨h1, h2, h3, h4, h5, h6⟩ := chkU_ok h
 exact redE_in h6 (by rw [show ((n.toNat : Nat) : Int) = n by omega]; exact h5)
theorem str_least {n : Int} {L C : List Lk} {t : Nat -> Int} (h : str n L C = some t) : chkU n L C = 0 /\ Least n.toNat (redE C n.toNat L) (fun _ => 0) t := by
 unfold str at h
 split at h
 ·rename_i hc
  exact ⟨hc, found_least (str_in hc) h⟩
 ·cases h
theorem str_none {n : Int} {L C : List Lk} (h : str n L C = none) (hc : chkU n L C = 0) (s : Nat -> Int) : ¬ Sol (redE C n.toNat L) s := by
 unfold str at h
 rw [if_pos hc] at h
 exact found_no (str_in hc) h s
theorem str_no {n : Int} {L C : List Lk} (h : ∀ s, ¬ Sol (redE C n.toNat L) s) : str n L C = none := by
 cases he : str n L C with
 | none => rfl
 | some s => exact absurd (str_least he).2.sol (h s)
theorem ivec_congr {n : Nat} {f g : Nat -> Int} (h : ∀ x, x < n -> f x = g x) : ivec n f = ivec n g := by
 unfold ivec vec
 apply List.map_congr_left
 intro x hx
 rw [h x (List.mem_range.1 hx)]
def noV (e : Int) : Value := .tuple ⟨[.slice none 0 0, .bool false, .int .i64 e]⟩
def yesV (n b : Nat) : Value := .tuple ⟨[.slice (some ⟨b, 0, none⟩) n n, .bool true, .int .i64 0]⟩
/-- what Strong answers -/
def StrQ (n : Int) (L C : List Lk) (w : World) (e : Ending) (w' : World) : Prop :=
 (str n L C = none /\ e = .returned (noV (chkU n L C)) /\ Below w.heap.size w w') ∨
 (∃ t b, str n L C = some t /\ e = .returned (yesV n.toNat b) /\ Below w.heap.size w w' /\ w.heap.size <= b /\ w'.heap[b]? = some (.cells ⟨ivec n.toNat t⟩ 3 (0, 0)))
theorem redE_few {C L : List Lk} {N : Nat} (hT : Tree N C) (hL : Fine N L) (hc : C.length <= 30) : ∀ e ∈ redE C N L, -34084860461056 <= e.w /\ e.w <= 34084860461056 := fun e he => by
 have := redE_wt hT hL he
 omega

end R23
end Go.Proofs

namespace Go.Proofs
open Go.RowKit Go.Kin Go.Kin.St
namespace R22

/-- The least schedule, if there is one. -/
noncomputable def ear (n : Int) (l : List Lk) : Option (Nat -> Int) := if chk n l = 0 then found (edges l) (n.toNat + 1) (fun _ => 0) else none
theorem ear_bad {n : Int} {l : List Lk} (h : chk n l ≠ 0) : ear n l = none := if_neg h
theorem ear_least {n : Int} {l : List Lk} {L : Nat -> Int} (h : ear n l = some L) : chk n l = 0 /\ Least n.toNat (edges l) (fun _ => 0) L := by
 unfold ear at h
 split at h
 ·rename_i hc
  exact ⟨hc, found_least (chk_fine hc).2.2.2.inE h⟩
 ·cases h
theorem ear_none {n : Int} {l : List Lk} (h : ear n l = none) (hc : chk n l = 0) (s : Nat -> Int) : ¬ Sol (edges l) s := by
 unfold ear at h
 rw [if_pos hc] at h
 exact found_no (chk_fine hc).2.2.2.inE h s
theorem ear_of {n : Int} {l : List Lk} {t : Nat -> Int} (hc : chk n l = 0) (h : Least n.toNat (edges l) (fun _ => 0) t) : ∃ L, ear n l = some L /\ ∀ x, x < n.toNat -> t x = L x := by
 cases he : ear n l with
 | none => exact absurd h.sol (ear_none he hc t)
 | some L => exact ⟨L, rfl, h.uniq (ear_least he).2⟩
theorem ear_no {n : Int} {l : List Lk} (h : ∀ s, ¬ Sol (edges l) s) : ear n l = none := by
 cases he : ear n l with
 | none => rfl
 | some L => exact absurd (ear_least he).2.sol (h L)

theorem ivec_congr {n : Nat} {f g : Nat -> Int} (h : ∀ x, x < n -> f x = g x) : ivec n f = ivec n g := by
 unfold ivec vec
 apply List.map_congr_left
 intro x hx
 rw [h x (List.mem_range.1 hx)]

def noV (e : Int) : Value := .tuple ⟨[.slice none 0 0, .bool false, .int .i64 e]⟩
def yesV (n b : Nat) : Value := .tuple ⟨[.slice (some ⟨b, 0, none⟩) n n, .bool true, .int .i64 0]⟩
/-- What Earliest answers. -/
def EarQ (n : Int) (l : List Lk) (w : World) (e : Ending) (w' : World) : Prop :=
 (ear n l = none /\ e = .returned (noV (chk n l)) /\ Below w.heap.size w w') ∨
 (∃ L b, ear n l = some L /\ e = .returned (yesV n.toNat b) /\ Below w.heap.size w w' /\ w.heap.size <= b /\ w'.heap[b]? = some (.cells ⟨ivec n.toNat L⟩ 3 (0, 0)))



theorem earQ_none {f : FuncId} {args : Array Value} {n : Int} {l : List Lk} {w : World} (h : Calls Try.prog f args w (EarQ n l w)) (he : ear n l = none) :
  Calls Try.prog f args w fun e w' => e = .returned (noV (chk n l)) /\ Below w.heap.size w w' := h.mono fun e w' q => by
 rcases q with ⟨_, h1, h2⟩ | ⟨L, b, h1, _⟩
 ·exact ⟨h1, h2⟩
 ·rw [he] at h1; cases h1
theorem earQ_some {f : FuncId} {args : Array Value} {n : Int} {l : List Lk} {w : World} {L : Nat -> Int} (h : Calls Try.prog f args w (EarQ n l w)) (he : ear n l = some L) :
  Calls Try.prog f args w fun e w' => ∃ b, e = .returned (yesV n.toNat b) /\ Below w.heap.size w w' /\ w.heap.size <= b /\ w'.heap[b]? = some (.cells ⟨ivec n.toNat L⟩ 3 (0, 0)) := h.mono fun e w' q => by
 rcases q with ⟨h1, _⟩ | ⟨L', b, h1, h2, h3, h4, h5⟩
 ·rw [he] at h1; cases h1
 ·rw [he] at h1; cases h1; exact ⟨b, h2, h3, h4, h5⟩


end R22
end Go.Proofs

/- Games on networks: decisions are collected. -/
import Derived.Test.YtcodoembnjemkaaSgK
import Derived.Test.YtcodoembnjemkaaEng37
import Derived.Test.YtcodoembnjemkaaGenCell
set_option linter.unusedSectionVars false
set_option linter.unusedVariables false
set_option linter.unusedSimpArgs false
namespace Go.Proofs
open Go.RowKit Go.Kin Go.Kin.St Go.Kin.Ct Go.Kin.Sg
namespace R24
section
variable {P : Program} {N : Nat} {c : Cx} {env : List (Nat × Value)} {mem : List (Nat × Obj)} {tt : List (TypeId × TI)} {ty : TypeId} {pos : String} {af : Array Edge} {g : Option (Nat × Bool)} {dd : Option Tmp}
theorem v_eqNilS [T : TT P tt] {t t' e n m sz bt : Nat} {z : Value} {ad : Addr} {x : Operand} (ht : Go.Kin.look tt t = some ⟨.slice e, sz, bt, z⟩) (hx : evOp env x = some (.slice (some ad) n m)) :
    OpVal P N c env mem ⟨dd, .binOp .eql t x (.const (.slice none 0 0)) t', ty, pos, af, g⟩ (.bool false) := by
  have hu : P.underlying t = some (.slice e) := (TT.look (P := P) ht).1
  refine ⟨rfl, fun a W ha _ => ?_⟩
  have h1 : (eqGuard .eql t x (.const (.slice none 0 0)) (.slice (some ad) n m) (.slice none 0 0)).run P W = .ok () W := by
    unfold eqGuard; simp [Sem.run, pure]
  have h2 : (Op.equal t (.slice (some ad) n m) (.slice none 0 0)).run P W = .ok false W := by
    show (Op.equalIn (9999 + 1) t _ _).run P W = _
    rw [Op.equalIn]
    simp only [Sem.run_bind, run_und hu, Result.andThen_ok]; rfl
  have h3 : a.eval (.const (.slice none 0 0)) = .slice none 0 0 := rfl
  simp only [execOp, ha.eval hx, h3, Sem.run_bind, h1, Result.andThen_ok, binOp, h2]
  rfl
theorem v_eqNilS0 [T : TT P tt] {t t' e sz bt : Nat} {z : Value} {x : Operand} (ht : Go.Kin.look tt t = some ⟨.slice e, sz, bt, z⟩) (hx : evOp env x = some (.slice none 0 0)) :
    OpVal P N c env mem ⟨dd, .binOp .eql t x (.const (.slice none 0 0)) t', ty, pos, af, g⟩ (.bool true) := by
  have hu : P.underlying t = some (.slice e) := (TT.look (P := P) ht).1
  refine ⟨rfl, fun a W ha _ => ?_⟩
  have h1 : (eqGuard .eql t x (.const (.slice none 0 0)) (.slice none 0 0) (.slice none 0 0)).run P W = .ok () W := by
    unfold eqGuard; simp [Sem.run, pure]
  have h2 : (Op.equal t (.slice none 0 0) (.slice none 0 0)).run P W = .ok true W := by
    show (Op.equalIn (9999 + 1) t _ _).run P W = _
    rw [Op.equalIn]
    simp only [Sem.run_bind, run_und hu, Result.andThen_ok]; rfl
  have h3 : a.eval (.const (.slice none 0 0)) = .slice none 0 0 := rfl
  simp only [execOp, ha.eval hx, h3, Sem.run_bind, h1, Result.andThen_ok, binOp, h2]
  rfl
end
def flI (l : List Int) : List Value := (l.map inE).flatten
theorem flI_len {l : List Int} : (flI l).length = l.length * 1 := in_rows l
theorem flI_one : ∀ {l : List Int}, allOne (flI l) = true
  | [] => rfl
  | _ :: l => flI_one (l := l)
theorem news_at {c : Cx} {mem : List (Nat × Obj)} {b o : Nat} {l : List Int} (h : ∀ W, SatW c.w0 c.D c.J mem W → At W (some ⟨b, o, none⟩) 1 (l.map inE)) : News c mem b o (flI l) := ⟨fun W hW j v hj => by
  obtain ⟨i, hi⟩ : ∃ i, i = j := ⟨_, rfl⟩
  have hlt := (List.getElem?_eq_some_iff.1 hj).1
  rw [flI_len, Nat.mul_one] at hlt
  obtain ⟨b', o', e, hc⟩ := h W hW j (inE l[j]) (by rw [List.getElem?_map, List.getElem?_eq_getElem hlt]; rfl)
  cases e
  have h2 := hc 0 (.int .i64 l[j]) rfl
  rw [Nat.mul_one, Nat.add_zero] at h2
  rw [h2]
  have h3 : (flI l)[j]? = some (.int .i64 l[j]) := by
    have : flI l = l.map fun x => Value.int .i64 x := by
      unfold flI
      clear h hj hlt hc h2
      induction l with
      | nil => rfl
      | cons x l ih => rw [List.map_cons, List.flatten_cons, ih]; rfl
    rw [this, List.getElem?_map, List.getElem?_eq_getElem hlt]; rfl
  rw [← h3, hj]⟩
set_option maxRecDepth 100000 in
set_option maxHeartbeats 40000000 in
theorem clone_calls (b o cap : Nat) (l : List Int) (w : World) (hA : Kin.At w (some ⟨b, o, none⟩) 1 (l.map inE)) (hl : l ≠ []) (hlen : l.length ≤ 1000) :
    Calls Try.prog 33 ⟨[.slice (some ⟨b, o, none⟩) l.length cap]⟩ w fun e w' => ∃ b cap rest, e = .returned (.slice (some ⟨b, 0, none⟩) l.length cap) ∧ Grow 1 l.length (flI l) cap rest ∧ Below w.heap.size w w' ∧ w.heap.size ≤ b ∧ w'.heap[b]? = some (.cells ⟨flI l ++ rest⟩ 3 (0, 0)) := by
  refine fun_enter Try.func33 rfl Try.ntmps33 rfl rfl (satW_nil w) ?_
  repeat (first | refine l_val rfl rfl (by first | exact pureEval_ok rfl  | fail) ?_ | refine l_nil ?_ | refine c_region ?_ | refine c_seq ?_ | refine x_then ?_ | refine r_buildSlice rfl rfl rfl rfl rfl rfl (by rfl) (fun _ => ?_) | refine c_false rfl ?_ | refine c_skip ?_ | refine l_val rfl rfl (v_eqNilS rfl rfl) ?_  | fail)
  refine r_append (xs := []) (rest := []) (n := 0) (cap := 0) (ys := flI l) rfl rfl rfl rfl rfl rfl (news_at fun W hW => hA.sat hW) Rem.head ⟨rfl, rfl, Nat.le_refl _, Nat.zero_le _⟩ flI_len flI_one rfl (by omega) (by unfold maxLen; omega) (fun b' c' r' hg => ?_)
  rw [Nat.zero_add] at hg ⊢
  rw [List.nil_append] at hg ⊢
  repeat (first | refine l_val rfl rfl (by first | exact pureEval_ok rfl  | fail) ?_ | refine l_nil ?_ | refine x_then ?_ | refine c_ret ?_  | fail)
  refine x_ret rfl rfl (by repeat (first | exact Res.nil | (apply Res.tmp; rfl) | (apply Res.cell; rfl; exact (by repeat (first | exact List.Mem.head _ | apply List.Mem.tail)); rfl; rfl))) rfl (fun W hW => ?_)
  have h := hW.own (b', _) (by repeat (first | exact List.Mem.head _ | apply List.Mem.tail))
  exact ⟨b', c', r', rfl, hg, hW.below, Nat.le_of_not_lt h.1, h.2⟩
theorem kn_rows {w : World} {b : Nat} {k : Int} {l : List Int} (h : ∀ i v, (plC k (kn l))[i]? = some v → w.cell? ⟨b, i, none⟩ = some v) (hl : l.length ≤ 6) : At w (some ⟨b, 0 + 1, none⟩) 1 (l.map inE) := fun i cs hi => by
  rw [List.getElem?_map] at hi
  cases hq : l[i]? with
  | none => rw [hq] at hi; cases hi
  | some x =>
    rw [hq] at hi
    cases hi
    refine ⟨b, 0 + 1, rfl, fun j v hj => ?_⟩
    have hlt := (List.getElem?_eq_some_iff.1 hq).1
    cases j with
    | succ j => cases hj
    | zero =>
      cases hj
      have := plC_get (k := k) (f := kn l) (show i < 6 by omega)
      rw [kn_get hq] at this
      have h2 := h _ _ this
      rw [show 0 + 1 + i * 1 + 0 = 1 + i by omega]
      exact h2
def decV (k : Int) (l : List Int) (X : Value) (_ : Array Value) (π : Pi) : Value := .agg ⟨[.int .i64 k, .slice (some ⟨π.b, 0, none⟩) l.length (capF 1 l.length π.rest), X]⟩
def decO (l : List Int) (_ : Array Value) (π : Pi) : List (Nat × Obj) := [(π.b, .cells ⟨flI l ++ restF 1 l.length π.rest⟩ 3 (0, 0))]
set_option maxRecDepth 100000 in
set_option maxHeartbeats 40000000 in
theorem decision_calls (b : GB) (a : Nat) (k : Int) (l : List Int) (B : Option Addr) (m cd : Nat) (w : World) (hn : b.n ≤ 6) (hl : l.length = b.n) (hne : l ≠ []) (hg : GIn b a w) :
    Calls Try.prog 75 ⟨[.pointer (some ⟨a, 0, none⟩), .agg ⟨plC k (kn l)⟩, .slice B m cd]⟩ w fun e w' => ∃ π, e = .returned (decV k l (.slice B m cd) #[] π) ∧ Below w.heap.size w w' ∧ ((decO l #[] π).map (·.1)).Nodup ∧ ∀ p ∈ decO l #[] π, w.heap.size ≤ p.1 ∧ w'.heap[p.1]? = some p.2 := by
  have hown := hg.ext
  have h00 : Ext w (base w) a 0 [.int .i64 b.n] := hown.at cells_0
  have hpl0 := plC_0 (k := k) (f := kn l)
  refine fun_enter Try.func75 rfl Try.ntmps75 rfl rfl (satW_nil w) ?_
  repeat ((fail_if_success refine c_probe (id := 1) ?_); (fail_if_success refine c_probe1 (id := 1) ?_); first | refine l_nil ?_ | refine c_region ?_ | refine c_seq ?_ | refine x_then ?_ | refine r_box rfl rfl rfl rfl (fun _ => ?_) | refine r_alloc rfl rfl rfl (by first | exact aggL  | fail) (fun _ => ?_)  | fail)
  refine c_seq ?_
  rename_i b4 b6
  refine c_new 1 1 [(9, .calA 1 1 l.length (flI l) 3), (12, .sto 0 0 3)] [(9, [1]), (12, [0])] [] rfl (by decide +kernel) rfl ?_
  repeat (first | refine e_val rfl rfl rfl rfl (v_sliceArr rfl rfl rfl rfl rfl hn) ?_ | refine e_val rfl rfl rfl rfl (by first | exact pureEval_ok rfl | exact v_load rfl (by repeat (first | exact List.Mem.head _ | apply List.Mem.tail)) rfl (by rfl) | exact v_load_ext0 rfl (by assumption) rfl (by rfl)  | fail) ?_  | fail)
  rw [← hl]
  refine e_callA rfl rfl rfl rfl rfl (by decide) flI_len (by unfold maxLen; omega) rfl (fun W hW => ?_) (fun b1 c1 r1 hgr => ?_)
  · refine clone_calls b4 (0 + 1) 6 l W (kn_rows (k := k) (fun i v hi => ?_) (by omega)) hne (by omega)
    rw [hW.cellAt (b := b4) (by repeat (first | exact List.Mem.head _ | apply List.Mem.tail)) i]; exact hi
  repeat (first | refine x_then ?_ | refine c_ret ?_ | refine e_val rfl rfl rfl rfl (by first | exact pureEval_ok rfl | exact v_build rfl rfl (by rfl)  | fail) ?_ | refine e_store rfl rfl rfl rfl rfl rfl rfl rfl (by first | rfl  | fail) rfl rfl (by first | (simp; done)  | fail) (by first | exact splice_lit (by rfl)  | fail) ?_ | refine e_nil rfl ?_  | fail)
  refine x_ret rfl rfl (by repeat (first | exact Res.nil | (apply Res.tmp; rfl) | (apply Res.cell; rfl; exact (by repeat (first | exact List.Mem.head _ | apply List.Mem.tail)); rfl; rfl))) rfl (fun W hW => ?_)
  have h := hW.own (b1, .cells ⟨flI l ++ r1⟩ 3 (0, 0)) (by repeat (first | exact List.Mem.head _ | apply List.Mem.tail))
  obtain ⟨g1, g2⟩ := growF hgr (by omega)
  refine ⟨⟨b1, r1, [], []⟩, ?_, hW.below, by simp [decO], fun p hp => ?_⟩
  · unfold decV
    simp only
    rw [g1]
  · unfold decO at hp
    rw [List.mem_singleton.1 hp]
    simp only
    rw [g2]
    exact ⟨Nat.le_of_not_lt h.1, h.2⟩
/-! ## A decision as it lies -/
structure DR where
  k : Nat
  l : List Int
  d : List Nat
  bk : Nat
  ck : Nat
  rk : List Value
  bd : Nat
  cd : Nat
  rd : List Value
def drE (r : DR) : List Value := [.int .i64 r.k, .slice (some ⟨r.bk, 0, none⟩) r.l.length r.ck, .slice (some ⟨r.bd, 0, none⟩) r.d.length r.cd]
theorem dr_rows (l : List DR) : (l.map drE).flatten.length = l.length * 3 := by
  induction l with
  | nil => rfl
  | cons x l ih => rw [List.map_cons, List.flatten_cons, List.length_append, ih, List.length_cons]; show 3 + _ = _; omega
def DR.knM (r : DR) : List (Nat × Obj) := [(r.bk, .cells ⟨flI r.l ++ r.rk⟩ 3 (0, 0))]
def DR.doM (r : DR) : List (Nat × Obj) := [(r.bd, .cells ⟨(r.d.map nE).flatten ++ r.rd⟩ 3 (0, 0))]
def DR.OK (r : DR) : Prop := Grow 1 r.l.length (flI r.l) r.ck r.rk ∧ Grow 1 r.d.length ((r.d.map nE).flatten) r.cd r.rd ∧ r.d ≠ []
/-- the list of decisions, and where it lies -/
structure SL where
  rows : List DR
  b : Nat
  c : Nat
  r : List Value
def SL.v (s : SL) : Value := gSl s.rows s.b s.c
def SL.m (s : SL) (bs : Nat) : List (Nat × Obj) := (bs, .cells ⟨[s.v]⟩ 25 (0, 0)) :: gM drE 57 s.rows s.b s.r
def SL.OK (s : SL) : Prop := gOK drE 3 s.rows s.c s.r
theorem GB.In.sat {b : GB} {a : Nat} {w W : World} {D : Nat → Prop} {J : (Nat → Prop) → World → Prop} {mem : List (Nat × Obj)} (h : b.In a w D) (hW : SatW w D J mem W) : GIn b a W :=
  ⟨fun j v hj => by
    have := hW.same.cell (h.own.cell j v hj) h.own.dom
    rwa [Nat.zero_add] at this, h.l.at hW, h.c.at hW⟩
theorem GB.In.move {b : GB} {a : Nat} {w W : World} {D D' : Nat → Prop} (h : b.In a w D) (hS : Same D w W) (hD : ∀ k, D k → D' k) : b.In a W D' := ⟨h.own.move hS hD, h.l.move hS hD, h.c.move hS hD⟩
theorem satW_subset {w0 : World} {D : Nat → Prop} {J : (Nat → Prop) → World → Prop} {mem post : List (Nat × Obj)} {W : World} (h : SatW w0 D J mem W) (hn : (post.map (·.1)).Nodup) (hs : ∀ p ∈ post, p ∈ mem) : SatW w0 D J post W :=
  ⟨h.same, h.dom, hn, fun p hp => h.own p (hs p hp), h.closed, h.closed _ _ _ _ h.word (Same.refl _ _) fun b hb => .inl (by
    obtain ⟨p, hp, e⟩ := List.mem_map.1 hb
    exact List.mem_map.2 ⟨p, hs p hp, e⟩)⟩
structure AddI where
  bk : Nat
  ck : Nat
  rk : List Value
  b : Nat
  c : Nat
  r : List Value
set_option maxRecDepth 100000 in
set_option maxHeartbeats 80000000 in
theorem add_calls (b : GB) (a bg bs k : Nat) (l : List Int) (s : SL) (x : Nat) (d : List Nat) (bd cd : Nat) (rd : List Value) (w : World) (hn : b.n ≤ 6) (hl : l.length = b.n) (hne : l ≠ []) (hg : b.In a w (allBut w ((s.m bs).map (·.1)))) (hbg : Ext w (allBut w ((s.m bs).map (·.1))) bg 0 [.pointer (some ⟨a, 0, none⟩)])
    (hs : s.OK) (hsl : s.rows.length ≤ 100000000) (hnd : ((s.m bs).map (·.1)).Nodup) (hm : ∀ p ∈ s.m bs, w.heap[p.1]? = some p.2) :
    Calls Try.prog 74 ⟨[] ++ [.agg ⟨plC k (kn l)⟩, gSl (x :: d) bd cd] ++ [.pointer (some ⟨bs, 0, none⟩), .pointer (some ⟨bg, 0, none⟩)]⟩ w
      (FrQ (s.m bs) (fun _ => .tuple ⟨[]⟩) (fun i : { i : AddI // Grow 1 l.length (flI l) i.ck i.rk ∧ gOK drE 3 (s.rows ++ [⟨k, l, x :: d, i.bk, i.ck, i.rk, bd, cd, rd⟩]) i.c i.r } =>
        SL.m ⟨s.rows ++ [⟨k, l, x :: d, i.1.bk, i.1.ck, i.1.rk, bd, cd, rd⟩], i.1.b, i.1.c, i.1.r⟩ bs ++ [(i.1.bk, .cells ⟨flI l ++ i.1.rk⟩ 3 (0, 0))]) w) := by
  obtain ⟨rows, sb, sc, sr⟩ := s
  have hsat := frQ_start hnd hm
  have h00 : Ext w (allBut w ((SL.m ⟨rows, sb, sc, sr⟩ bs).map (·.1))) a 0 [.int .i64 b.n] := hg.own.at cells_0
  have hpl0 := plC_0 (k := k) (f := kn l)
  simp only at hsl
  cases rows with
  | nil =>
    refine fun_enter Try.func74 rfl Try.ntmps74 rfl rfl hsat ?_
    repeat ((fail_if_success refine c_probe (id := 2) ?_); (fail_if_success refine c_probe1 (id := 2) ?_); first | refine l_val rfl rfl (by first | exact pureEval_ok rfl  | fail) ?_ | refine l_nil ?_ | refine c_region ?_ | refine c_seq ?_ | refine x_then ?_ | refine r_box rfl rfl rfl rfl (fun _ => ?_)  | fail)
    rename_i b4
    refine c_dec_t rfl (by simp only [List.length_cons]; omega) ?_
    refine c_new 2 3 [(4, .calL [2] (decV k l (.slice (some ⟨bd, 0, none⟩) (x :: d).length cd)) (decO l)), (5, .new 3), (6, .app 4 none 3), (7, .sto 1 0 1)] [(4, [2]), (5, [3]), (6, [4]), (7, [1])] [(0, 1), (6, 3)] rfl (by decide +kernel) rfl ?_
    repeat (first | refine e_val rfl rfl rfl rfl (v_loadAll rfl (by repeat (first | exact List.Mem.head _ | apply List.Mem.tail)) rfl rfl plC_len) ?_ | refine e_val rfl rfl rfl rfl (by first | exact pureEval_ok rfl | exact v_load rfl (by repeat (first | exact List.Mem.head _ | apply List.Mem.tail)) rfl (by rfl) | exact v_load_ext0 rfl (by assumption) rfl (by rfl)  | fail) ?_  | fail)
    refine e_callL rfl rfl rfl rfl rfl (by decide) (fun _ => by simp [decO]) rfl (fun W hW => ?_) (fun π => ?_)
    · refine (decision_calls b a k l (some ⟨bd, 0, none⟩) (x :: d).length cd W hn hl hne (hg.sat hW)).mono ?_
      rintro e W' ⟨π, h1, h2, h3, h4⟩
      exact ⟨π, h1, fun m hm => satW_L hm h2 h3 h4⟩
    repeat (first | refine e_new rfl rfl rfl rfl (by first | exact n_buildSlice rfl rfl rfl rfl (by rfl)  | fail) (fun _ => ?_)  | fail)
    refine e_app0 (n := 1) (e := 57) rfl rfl rfl rfl (by decide) rfl (by unfold maxLen; omega) rfl (a_append_nil rfl rfl rfl rfl (news_own (by repeat (first | exact List.Mem.head _ | apply List.Mem.tail))) rfl rfl (by decide) (by decide) (by unfold maxLen; omega)) (fun b8 c8 r8 hg8 => ?_)
    repeat (first | refine e_store rfl rfl rfl rfl rfl rfl rfl rfl (by first | rfl  | fail) rfl rfl (by first | (simp; done)  | fail) (by first | exact splice_lit (by rfl)  | fail) ?_ | refine e_nil rfl ?_  | fail)
    refine x_end rfl rfl (by repeat (first | exact Res.nil | (apply Res.tmp; rfl) | (apply Res.cell; rfl; exact (by repeat (first | exact List.Mem.head _ | apply List.Mem.tail)); rfl; rfl))) rfl (fun W hW => ?_)
    refine ⟨⟨⟨π.b, capF 1 l.length π.rest, restF 1 l.length π.rest, b8, c8, r8⟩, growF_mk flI_len (by unfold maxLen; omega) _, fun _ => hg8⟩, rfl, satW_subset hW ?_ ?_⟩
    · have := hW.nodup
      simp [SL.m, gM] at this ⊢
      omega
    · intro p hp
      simp [SL.m, gM] at hp ⊢
      rcases hp with rfl | rfl | rfl
      · exact .inr (.inl rfl)
      · exact .inr (.inr (.inr (.inr rfl)))
      · exact .inr (.inr (.inl rfl))
  | cons r0 rows =>
    refine fun_enter Try.func74 rfl Try.ntmps74 rfl rfl hsat ?_
    repeat ((fail_if_success refine c_probe (id := 2) ?_); (fail_if_success refine c_probe1 (id := 2) ?_); first | refine l_val rfl rfl (by first | exact pureEval_ok rfl  | fail) ?_ | refine l_nil ?_ | refine c_region ?_ | refine c_seq ?_ | refine x_then ?_ | refine r_box rfl rfl rfl rfl (fun _ => ?_)  | fail)
    rename_i b4
    refine c_dec_t rfl (by simp only [List.length_cons]; omega) ?_
    refine c_new 3 3 [(4, .calL [3] (decV k l (.slice (some ⟨bd, 0, none⟩) (x :: d).length cd)) (decO l)), (5, .new 4), (6, .app 5 (some 2) 3), (7, .sto 1 0 1)] [(4, [3]), (5, [4]), (6, [5, 2]), (7, [1])] [(0, 1), (6, 2), (6, 4)] rfl (by decide +kernel) rfl ?_
    repeat (first | refine e_val rfl rfl rfl rfl (v_loadAll rfl (by repeat (first | exact List.Mem.head _ | apply List.Mem.tail)) rfl rfl plC_len) ?_ | refine e_val rfl rfl rfl rfl (by first | exact pureEval_ok rfl | exact v_load rfl (by repeat (first | exact List.Mem.head _ | apply List.Mem.tail)) rfl (by rfl) | exact v_load_ext0 rfl (by assumption) rfl (by rfl)  | fail) ?_  | fail)
    refine e_callL rfl rfl rfl rfl rfl (by decide) (fun _ => by simp [decO]) rfl (fun W hW => ?_) (fun π => ?_)
    · refine (decision_calls b a k l (some ⟨bd, 0, none⟩) (x :: d).length cd W hn hl hne (hg.sat hW)).mono ?_
      rintro e W' ⟨π, h1, h2, h3, h4⟩
      exact ⟨π, h1, fun m hm => satW_L hm h2 h3 h4⟩
    repeat (first | refine e_new rfl rfl rfl rfl (by first | exact n_buildSlice rfl rfl rfl rfl (by rfl)  | fail) (fun _ => ?_)  | fail)
    refine e_app (xs := ((r0 :: rows).map drE).flatten ++ [.int .i64 k, .slice (some ⟨π.b, 0, none⟩) l.length (capF 1 l.length π.rest), .slice (some ⟨bd, 0, none⟩) (x :: d).length cd]) (n := (r0 :: rows).length + 1) (e := 57) rfl rfl rfl rfl rfl (by decide) (by rw [List.length_append, dr_rows]; simp only [List.length_cons, List.length_nil]; omega) (by unfold maxLen; omega) rfl (a_append rfl rfl rfl rfl (news_own (by repeat (first | exact List.Mem.head _ | apply List.Mem.tail))) (by repeat (first | exact List.Mem.head _ | apply List.Mem.tail)) (hs (by simp)) rfl (allOne_mem rfl) rfl rfl (by simp only [List.length_cons] at hsl ⊢; omega) (by unfold maxLen; simp only [List.length_cons] at hsl ⊢; omega)) (fun b8 c8 r8 hg8 => ?_)
    repeat (first | refine e_store rfl rfl rfl rfl rfl rfl rfl rfl (by first | rfl  | fail) rfl rfl (by first | (simp; done)  | fail) (by first | exact splice_lit (by rfl)  | fail) ?_ | refine e_nil rfl ?_  | fail)
    refine x_end rfl rfl (by repeat (first | exact Res.nil | (apply Res.tmp; rfl) | (apply Res.cell; rfl; exact (by repeat (first | exact List.Mem.head _ | apply List.Mem.tail)); rfl; rfl))) rfl (fun W hW => ?_)
    have e1 : (((r0 :: rows) ++ [(⟨k, l, x :: d, π.b, capF 1 l.length π.rest, restF 1 l.length π.rest, bd, cd, rd⟩ : DR)]).map drE).flatten = ((r0 :: rows).map drE).flatten ++ [.int .i64 k, .slice (some ⟨π.b, 0, none⟩) l.length (capF 1 l.length π.rest), .slice (some ⟨bd, 0, none⟩) (x :: d).length cd] := by
      rw [List.map_append, List.flatten_append]; rfl
    have e2 : ((r0 :: rows) ++ [(⟨k, l, x :: d, π.b, capF 1 l.length π.rest, restF 1 l.length π.rest, bd, cd, rd⟩ : DR)]).length = (r0 :: rows).length + 1 := by rw [List.length_append]; rfl
    refine ⟨⟨⟨π.b, capF 1 l.length π.rest, restF 1 l.length π.rest, b8, c8, r8⟩, growF_mk flI_len (by unfold maxLen; omega) _, fun _ => by rw [e1, e2]; exact hg8⟩, rfl, satW_subset hW ?_ ?_⟩
    · have := hW.nodup
      simp [SL.m, gM] at this ⊢
      omega
    · intro p hp
      have hp : p ∈ (bs, Obj.cells ⟨[.slice (some ⟨b8, 0, none⟩) ((r0 :: rows) ++ [(⟨k, l, x :: d, π.b, capF 1 l.length π.rest, restF 1 l.length π.rest, bd, cd, rd⟩ : DR)]).length c8]⟩ 25 (0, 0)) :: (b8, Obj.cells ⟨(((r0 :: rows) ++ [(⟨k, l, x :: d, π.b, capF 1 l.length π.rest, restF 1 l.length π.rest, bd, cd, rd⟩ : DR)]).map drE).flatten ++ r8⟩ 57 (0, 0)) :: [(π.b, Obj.cells ⟨flI l ++ restF 1 l.length π.rest⟩ 3 (0, 0))] := hp
      rw [e1, e2] at hp
      simp only [List.mem_cons, List.not_mem_nil, or_false] at hp
      rcases hp with rfl | rfl | rfl
      · exact List.mem_cons_of_mem _ (List.mem_cons_self ..)
      · simp
      · simp
end R24
end Go.Proofs

set_option linter.unusedSectionVars false
set_option linter.unusedVariables false
set_option linter.unusedSimpArgs false
namespace Go.Kin.Sg
/-- positions that are met -/
inductive Rch (nx : Pos → List Pos) (T : Nat) (s : Pos) : Pos → Prop
  | start : Rch nx T s s
  | step {p y : Pos} (h : Rch nx T s p) (hk : p.1 ≤ T) (hy : y ∈ nx p) : Rch nx T s y
structure BS where
  q : List Pos
  seen : List Pos
/-- the state of the walk -/
structure BI (nx : Pos → List Pos) (T : Nat) (s : Pos) (K : Nat) (b : BS) : Prop where
  met : ∀ p, p ∈ b.q ∨ p ∈ b.seen → Rch nx T s p
  nodup : b.seen.Nodup
  le : ∀ p ∈ b.seen, p.1 ≤ T
  start : s ∈ b.q ∨ s ∈ b.seen ∨ T < s.1
  next : ∀ p ∈ b.seen, ∀ y ∈ nx p, y ∈ b.q ∨ y ∈ b.seen ∨ T < y.1
  len : b.q.length ≤ 1 + K * b.seen.length
theorem BI.init (nx : Pos → List Pos) (T : Nat) (s : Pos) (K : Nat) : BI nx T s K ⟨[s], []⟩ where
  met := fun p hp => by
    rcases hp with hp | hp
    · rw [List.mem_singleton.1 hp]; exact .start
    · cases hp
  nodup := List.nodup_nil
  le := fun p hp => by cases hp
  start := .inl List.mem_cons_self
  next := fun p hp => by cases hp
  len := by simp
theorem BI.skip {nx : Pos → List Pos} {T : Nat} {s : Pos} {K : Nat} {p : Pos} {qs seen : List Pos} (h : BI nx T s K ⟨p :: qs, seen⟩) (hp : p ∈ seen ∨ T < p.1) : BI nx T s K ⟨qs, seen⟩ where
  met := fun x hx => h.met x (hx.imp_left (List.mem_cons_of_mem _))
  nodup := h.nodup
  le := h.le
  start := by
    rcases h.start with h1 | h1
    · rcases List.mem_cons.1 h1 with e | e
      · subst e; exact .inr hp
      · exact .inl e
    · exact .inr h1
  next := fun x hx y hy => by
    rcases h.next x hx y hy with h1 | h1
    · rcases List.mem_cons.1 h1 with e | e
      · subst e; exact .inr hp
      · exact .inl e
    · exact .inr h1
  len := by have := h.len; simp only [List.length_cons] at this; simp only; omega
theorem BI.take {nx : Pos → List Pos} {T : Nat} {s : Pos} {K : Nat} {p : Pos} {qs seen : List Pos} (h : BI nx T s K ⟨p :: qs, seen⟩) (hp : p ∉ seen) (hk : p.1 ≤ T) (hK : (nx p).length ≤ K) : BI nx T s K ⟨qs ++ nx p, seen ++ [p]⟩ where
  met := fun x hx => by
    simp only [List.mem_append, List.mem_singleton] at hx
    have hpm := h.met p (.inl List.mem_cons_self)
    rcases hx with (hx | hx) | hx | rfl
    · exact h.met x (.inl (List.mem_cons_of_mem _ hx))
    · exact .step hpm hk hx
    · exact h.met x (.inr hx)
    · exact hpm
  nodup := by
    show (seen ++ [p]).Nodup
    rw [List.nodup_append]
    refine ⟨h.nodup, by simp, fun a ha b hb e => ?_⟩
    rw [List.mem_singleton.1 hb] at e
    subst e
    exact hp ha
  le := fun x hx => by
    rcases List.mem_append.1 hx with hx | hx
    · exact h.le x hx
    · rw [List.mem_singleton.1 hx]; exact hk
  start := by
    simp only [List.mem_append, List.mem_singleton]
    rcases h.start with h1 | h1 | h1
    · rcases List.mem_cons.1 h1 with e | e
      · exact .inr (.inl (.inr e))
      · exact .inl (.inl e)
    · exact .inr (.inl (.inl h1))
    · exact .inr (.inr h1)
  next := fun x hx y hy => by
    simp only [List.mem_append, List.mem_singleton] at hx ⊢
    rcases hx with hx | rfl
    · rcases h.next x hx y hy with h1 | h1 | h1
      · rcases List.mem_cons.1 h1 with e | e
        · exact .inr (.inl (.inr e))
        · exact .inl (.inl e)
      · exact .inr (.inl (.inl h1))
      · exact .inr (.inr h1)
    · exact .inl (.inr hy)
  len := by
    have := h.len
    simp only [List.length_cons, List.length_append, List.length_nil] at this ⊢
    rw [Nat.mul_add]
    omega
theorem BI.all {nx : Pos → List Pos} {T : Nat} {s : Pos} {K : Nat} {seen : List Pos} (h : BI nx T s K ⟨[], seen⟩) : ∀ {p : Pos}, Rch nx T s p → p.1 ≤ T → p ∈ seen := by
  intro p hp
  induction hp with
  | start =>
    intro hk
    rcases h.start with h1 | h1 | h1
    · cases h1
    · exact h1
    · omega
  | step hr hk hy ih =>
    intro hk2
    rcases h.next _ (ih hk) _ hy with h1 | h1 | h1
    · cases h1
    · exact h1
    · omega
/-- it ends -/
def bmu (K T : Nat) (q : List Pos) : Nat := (q.map fun p => (K + 1) ^ (T + 1 - p.1)).sum
theorem bmu_cons {K T : Nat} {p : Pos} {q : List Pos} : bmu K T (p :: q) = (K + 1) ^ (T + 1 - p.1) + bmu K T q := by unfold bmu; rw [List.map_cons, List.sum_cons]
theorem bmu_append {K T : Nat} {q r : List Pos} : bmu K T (q ++ r) = bmu K T q + bmu K T r := by unfold bmu; rw [List.map_append, List.sum_append]
theorem bmu_skip {K T : Nat} {p : Pos} {q : List Pos} : bmu K T q < bmu K T (p :: q) := by
  rw [bmu_cons]
  have : 0 < (K + 1) ^ (T + 1 - p.1) := Nat.pow_pos (by omega)
  omega
theorem bmu_le {K T k : Nat} : ∀ {r : List Pos}, (∀ y ∈ r, y.1 = k) → bmu K T r = r.length * (K + 1) ^ (T + 1 - k)
  | [], _ => by simp [bmu]
  | y :: r, h => by rw [bmu_cons, h y List.mem_cons_self, bmu_le fun z hz => h z (List.mem_cons_of_mem _ hz), List.length_cons, Nat.add_mul]; omega
theorem bmu_take {K T : Nat} {p : Pos} {q r : List Pos} (hk : p.1 ≤ T) (hr : ∀ y ∈ r, y.1 = p.1 + 1) (hK : r.length ≤ K) : bmu K T (q ++ r) < bmu K T (p :: q) := by
  rw [bmu_append, bmu_cons, bmu_le hr, show T + 1 - p.1 = (T + 1 - (p.1 + 1)) + 1 by omega, Nat.pow_succ]
  have h1 : 0 < (K + 1) ^ (T + 1 - (p.1 + 1)) := Nat.pow_pos (by omega)
  have h2 : r.length * (K + 1) ^ (T + 1 - (p.1 + 1)) ≤ K * (K + 1) ^ (T + 1 - (p.1 + 1)) := Nat.mul_le_mul_right _ hK
  have h3 : (K + 1) ^ (T + 1 - (p.1 + 1)) * (K + 1) = K * (K + 1) ^ (T + 1 - (p.1 + 1)) + (K + 1) ^ (T + 1 - (p.1 + 1)) := by rw [Nat.mul_comm, Nat.add_mul, Nat.one_mul]
  omega
/-! ## How many there are -/
theorem nodup_lt : ∀ {m : Nat} {l : List Nat}, l.Nodup → (∀ x ∈ l, x < m) → l.length ≤ m
  | 0, l, _, h => by
    cases l with
    | nil => simp
    | cons x l => exact absurd (h x List.mem_cons_self) (by omega)
  | m + 1, l, hn, h => by
    have h1 : (l.erase m).length ≤ m := nodup_lt (hn.erase m) fun x hx => by
      have h2 := h x (List.mem_of_mem_erase hx)
      have h3 := (hn.mem_erase_iff.1 hx).1
      omega
    rw [List.length_erase] at h1
    split at h1 <;> omega
theorem nodup_le {α : Type} {f : α → Nat} {m : Nat} {l : List α} (hn : l.Nodup) (hf : ∀ x ∈ l, ∀ y ∈ l, f x = f y → x = y) (h : ∀ x ∈ l, f x < m) : l.length ≤ m := by
  have : (l.map f).Nodup := by
    unfold List.Nodup at hn ⊢
    rw [List.pairwise_map]
    exact hn.imp_of_mem fun ha hb hne e => hne (hf _ ha _ hb e)
  have h2 := nodup_lt this fun x hx => by
    obtain ⟨y, hy, rfl⟩ := List.mem_map.1 hx
    exact h y hy
  rwa [List.length_map] at h2
/-- a list of small numbers, as one number -/
def code (B : Nat) : List Int → Nat
  | [] => 0
  | x :: l => x.toNat + B * code B l
theorem code_lt {B : Nat} (hB : 0 < B) : ∀ {l : List Int}, (∀ x ∈ l, 0 ≤ x ∧ x < B) → code B l < B ^ l.length
  | [], _ => by simp [code]
  | x :: l, h => by
    have h1 := code_lt hB fun y hy => h y (List.mem_cons_of_mem _ hy)
    have h2 := h x List.mem_cons_self
    have h3 : B * (code B l + 1) ≤ B * B ^ l.length := Nat.mul_le_mul_left _ h1
    rw [List.length_cons, Nat.pow_succ, Nat.mul_comm (B ^ l.length)]
    show x.toNat + B * code B l < _
    rw [Nat.mul_add] at h3
    omega
theorem code_inj {B : Nat} : ∀ {l m : List Int}, l.length = m.length → (∀ x ∈ l, 0 ≤ x ∧ x < B) → (∀ x ∈ m, 0 ≤ x ∧ x < B) → code B l = code B m → l = m
  | [], [], _, _, _, _ => rfl
  | [], _ :: _, h, _, _, _ => by cases h
  | _ :: _, [], h, _, _, _ => by cases h
  | x :: l, y :: m, hlen, hl, hm, h => by
    have h1 := hl x List.mem_cons_self
    have h2 := hm y List.mem_cons_self
    have h : x.toNat + B * code B l = y.toNat + B * code B m := h
    have e1 : x.toNat = y.toNat := by
      have := congrArg (· % B) h
      simp only [Nat.add_mul_mod_self_left] at this
      rwa [Nat.mod_eq_of_lt (by omega), Nat.mod_eq_of_lt (by omega)] at this
    have e2 : code B l = code B m := Nat.eq_of_mul_eq_mul_left (show 0 < B by omega) (by omega)
    rw [show x = y by omega, code_inj (by simpa using hlen) (fun z hz => hl z (List.mem_cons_of_mem _ hz)) (fun z hz => hm z (List.mem_cons_of_mem _ hz)) e2]
/-- positions of so many points and ticks -/
theorem pos_le {n T : Nat} {l : List Pos} (hn : l.Nodup) (h : ∀ p ∈ l, p.1 ≤ T ∧ p.2.length = n ∧ ∀ x ∈ p.2, 0 ≤ x ∧ x ≤ T + 1) : l.length ≤ (T + 1) * (T + 2) ^ n := by
  refine nodup_le (f := fun p => p.1 + (T + 1) * code (T + 2) p.2) hn (fun x hx y hy e => ?_) fun x hx => ?_
  · obtain ⟨a1, a2, a3⟩ := h x hx
    obtain ⟨b1, b2, b3⟩ := h y hy
    have e : x.1 + (T + 1) * code (T + 2) x.2 = y.1 + (T + 1) * code (T + 2) y.2 := e
    have e1 : x.1 = y.1 := by
      have := congrArg (· % (T + 1)) e
      simp only [Nat.add_mul_mod_self_left] at this
      rwa [Nat.mod_eq_of_lt (by omega), Nat.mod_eq_of_lt (by omega)] at this
    have e2 : code (T + 2) x.2 = code (T + 2) y.2 := Nat.eq_of_mul_eq_mul_left (show 0 < T + 1 by omega) (by omega)
    have e3 := code_inj (B := T + 2) (by omega) (fun z hz => by have := a3 z hz; omega) (fun z hz => by have := b3 z hz; omega) e2
    exact Prod.ext e1 e3
  · obtain ⟨a1, a2, a3⟩ := h x hx
    have h1 := code_lt (B := T + 2) (by omega) (l := x.2) fun z hz => by have := a3 z hz; omega
    rw [a2] at h1
    have h3 : (T + 1) * (code (T + 2) x.2 + 1) ≤ (T + 1) * (T + 2) ^ n := Nat.mul_le_mul_left _ h1
    show x.1 + (T + 1) * code (T + 2) x.2 < _
    rw [Nat.mul_add] at h3
    omega
end Go.Kin.Sg

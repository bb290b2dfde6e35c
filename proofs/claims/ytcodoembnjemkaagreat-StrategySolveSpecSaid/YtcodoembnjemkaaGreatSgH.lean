/- The engine: slices of arrays, heads of slices, clear; a word that a map is, back as a block. Generic: no program is named here. -/
import Derived.Test.YtcodoembnjemkaaGreatSgE
import Derived.Test.YtcodoembnjemkaaGreatStAcc
import Derived.Test.YtcodoembnjemkaaGreatStMts
set_option linter.unusedSectionVars false
set_option linter.unusedVariables false
set_option linter.unusedSimpArgs false
namespace Go
open Go.RowKit
namespace Kin
section
variable {P : Program} {N : Nat} {c : Cx} {Q : Exit -> Act -> World -> Prop} {env : List (Nat × Value)} {mem mem' : List (Nat × Obj)} {L l : List Oper} {tt : List (TypeId × TI)}
 {ty : TypeId} {pos : String} {af : Array Edge} {g : Option (Nat × Bool)} {dd : Option Tmp}
/-- the first elements of an array -/
theorem v_sliceArr [T : TT P tt] {t e n b o h sz bt sz' bt' : Nat} {x hi : Operand} {ke : TK} {z z' : Value} {k : IntKind} {i : Int} (hx : evOp env x = some (.pointer (some ⟨b, o, none⟩))) (hl : evOp env hi = some (.int k i)) (ht : look tt t = some ⟨.array n e, sz', bt', z'⟩)
  (hte : look tt e = some ⟨ke, sz, bt, z⟩) (hil : i = h) (h1 : h <= n) :
  OpVal P N c env mem ⟨dd, .slice t x none (some hi) none, ty, pos, af, g⟩ (.slice (some ⟨b, o, none⟩) h n) :=
 ⟨rfl, fun a W ha _ => by
  subst hil
  have hu : P.underlying t = some (.array n e) := (TT.look (P := P) ht).1
  obtain ⟨i', hi', hs'⟩ := (TT.look (P := P) hte).size
  simp only [execOp, ha.eval hx, Option.map_some, Option.map_none, ha.eval hl, Instr.sliceAt, Instr.sureAddr, Instr.sliceBounds, Instr.sliceBound, asIntOf, Sem.run_bind, Sem.run_pure, Result.andThen_ok, run_und hu]
  rw [if_pos (⟨by omega, by omega⟩ : 0 <= ((h : Nat) : Int) /\ ((h : Nat) : Int) <= n)]
  simp only [Sem.run_bind, Sem.run_pure, Result.andThen_ok, run_size hi', hs', Int.toNat_natCast, Nat.zero_mul, addr_add, Nat.add_zero, Nat.sub_zero, ite_self]⟩
/-- the first elements of a slice -/
theorem v_sliceH [T : TT P tt] {t e n cap h sz bt sz' bt' : Nat} {A : Option Addr} {x hi : Operand} {ke : TK} {z z' : Value} {k : IntKind} {i : Int} (hx : evOp env x = some (.slice A n cap)) (hl : evOp env hi = some (.int k i)) (ht : look tt t = some ⟨.slice e, sz', bt', z'⟩)
  (hte : look tt e = some ⟨ke, sz, bt, z⟩) (hil : i = h) (h1 : h <= cap) :
  OpVal P N c env mem ⟨dd, .slice t x none (some hi) none, ty, pos, af, g⟩ (.slice A h cap) :=
 ⟨rfl, fun a W ha _ => by
  subst hil
  have hu : P.underlying t = some (.slice e) := (TT.look (P := P) ht).1
  obtain ⟨i', hi', hs'⟩ := (TT.look (P := P) hte).size
  simp only [execOp, ha.eval hx, Option.map_some, Option.map_none, ha.eval hl, Instr.sliceAt, Instr.slice, Instr.sliceBounds, Instr.sliceBound, asIntOf, Sem.run_bind, Sem.run_pure, Result.andThen_ok, run_und hu]
  rw [if_pos (⟨by omega, by omega⟩ : 0 <= ((h : Nat) : Int) /\ ((h : Nat) : Int) <= cap)]
  have e1 : A.map (fun x : Addr => x.add (0 * i'.size)) = A := by
   cases A with
   | none => rfl
   | some a => simp [Addr.add]
  simp only [Sem.run_bind, Sem.run_pure, Result.andThen_ok, run_size hi', Int.toNat_natCast, Nat.sub_zero, e1, ite_self]⟩
variable [Wide c.F]
/-- The operation yields a value that nobody keeps, and memory is then one of `mem'`. -/
theorem l_eff0 {op : Op} {ι : Type} {mem' : ι -> List (Nat × Obj)} (hw : wantB L env g = some true) (hp : plainOp op = true)
  (h : ∀ a W, SatA N c.ds env a -> SatW c.w0 c.D c.J mem W -> ∃ i v W', (execOp a.eval ⟨none, op, ty, pos, af, g⟩).run P W = .ok (.value v) W' /\ SatW c.w0 c.D c.J (mem' i) W') (k : ∀ i, RunL P N c L l Q env (mem' i)) :
  RunL P N c L (⟨none, op, ty, pos, af, g⟩ :: l) Q env mem :=
 l_run hw fun a W ha hm => by
  obtain ⟨i, v, W', h1, h2⟩ := h a W ha hm
  rw [semAt_plain _ hp, h1]
  exact (k i).run _ _ ha h2
theorem zeroCells_mem {z : Array Value} {n : Nat} {v : Value} (h : v ∈ (Builtin.zeroCells z n).toList) : v ∈ z.toList := by
 unfold Builtin.zeroCells at h
 simp only [Array.toList_map, Array.toList_range, List.mem_map, List.mem_range] at h
 obtain ⟨i, hi, rfl⟩ := h
 have h0 : 0 < z.size := by
  rcases Nat.eq_zero_or_pos z.size with h | h
  ·rw [h, Nat.mul_zero] at hi; omega
  ·exact h
 have hlt := Nat.mod_lt i h0
 rw [getElem!_pos z (i % z.size) hlt]
 exact Array.getElem_mem_toList hlt
/-- the elements of a slice in a block of one's own are cleared -/
theorem r_clear [T : TT P tt] {t e n cap b o sz bt sz' bt' : Nat} {x : Operand} {ke : TK} {z z' : Value} {cs : List Value} {mem' : List Value -> List (Nat × Obj)} (hw : wantB L env g = some true) (hx : evOp env x = some (.slice (some ⟨b, o, none⟩) n cap)) (ht : look tt t = some ⟨.slice e, sz', bt', z'⟩)
  (hte : look tt e = some ⟨ke, sz, bt, z⟩) (hz : Nat.beq (cellsL z).length sz = true) (hone : allOne (cellsL z) = true) (hu : ∀ zs, Upd mem b (.cells ⟨cs⟩ e (0, 0)) (.cells ⟨splice cs o zs⟩ e (0, 0)) (mem' zs)) (hle : o + n * sz <= cs.length)
  (k : ∀ zs : List Value, zs.length = n * sz -> RunL P N c L l Q env (mem' zs)) :
  RunL P N c L (⟨none, .call ⟨.builtin .clear, ⟨[x]⟩, ⟨[t]⟩⟩, ty, pos, af, g⟩ :: l) Q env mem := by
 refine l_eff0 (ι := { zs : List Value // zs.length = n * sz }) (mem' := fun zs => mem' zs.1) hw rfl (fun a W ha hm => ?_) (fun zs => k zs.1 zs.2)
 have hut : P.underlying t = some (.slice e) := (TT.look (P := P) ht).1
 obtain ⟨_, i, hi, _, _, hzi⟩ := TT.look (P := P) hte
 have hz2 : (zeroValue e).run P W = .ok z W := by
  simp only [zeroValue, Sem.run_bind, run_info hi, Result.andThen_ok, hzi]; rfl
 have hzl := Nat.eq_of_beq_eq_true hz
 have hlen : (Builtin.zeroCells z.cells n).toList.length = n * sz := by
  rw [zeroCells_len, cellsL_eq]
  show n * (cellsL z).length = _
  rw [hzl]
 have hb := (hm.own _ (hu []).isIn).2
 have hon : ∀ v ∈ (Builtin.zeroCells z.cells n).toList, v.oneCell' = true := fun v hv => by
  have := zeroCells_mem hv
  rw [cellsL_eq] at this
  exact allOne_mem hone v this
 have hst := run_storeCells_at (P := P) b o e (Builtin.zeroCells z.cells n).toList 0 ⟨cs⟩ W hb (by simp only [Nat.add_zero, hlen]; exact hle) hon
 simp only [Nat.add_zero] at hst
 by_cases hn : n = 0
 ·subst hn
  have e0 : splice cs o [] = cs := by unfold splice; simp
  refine ⟨⟨[], by simp⟩, .tuple #[], W, ?_, ?_⟩
  ·have hcl : (Builtin.clear_ #[t] ty #[.slice (some ⟨b, o, none⟩) 0 cap]).run P W = .ok (.tuple #[]) W := by
    simp [Builtin.clear_, run_und hut, Sem.run_bind, Sem.run_pure]
   simp only [execOp, resolve, List.map_toArray, List.map_cons, List.map_nil, ha.eval hx, Sem.run_bind]
   show (Sem.run P (do pure (.value (<- Builtin.clear_ #[t] ty #[.slice (some ⟨b, o, none⟩) 0 cap])) : Sem Next) W) = _
   simp only [Sem.run_bind, hcl, Result.andThen_ok]
   rfl
  ·exact hm.upd (hu []) (Same.refl _ _) (by rw [e0]; exact hb)
 ·refine ⟨⟨_, hlen⟩, .tuple #[], _, ?_, hm.put (hu _)⟩
  obtain ⟨m, rfl⟩ : ∃ m, n = m + 1 := ⟨n - 1, by omega⟩
  have hst' : (storeCells ⟨b, o, none⟩ (Builtin.zeroCells z.cells (m + 1)).toList).run P W = .ok () (W.setRow b (splice cs o (Builtin.zeroCells z.cells (m + 1)).toList).toArray) := hst
  have hcl : (Builtin.clear_ #[t] ty #[.slice (some ⟨b, o, none⟩) (m + 1) cap]).run P W = .ok (.tuple #[]) (W.setRow b (splice cs o (Builtin.zeroCells z.cells (m + 1)).toList).toArray) := by
   simp [Builtin.clear_, run_und hut, hz2, hst']
  simp only [execOp, resolve, List.map_toArray, List.map_cons, List.map_nil, ha.eval hx, Sem.run_bind]
  show (Sem.run P (do pure (.value (<- Builtin.clear_ #[t] ty #[.slice (some ⟨b, o, none⟩) (m + 1) cap])) : Sem Next) W) = _
  simp only [Sem.run_bind, hcl, Result.andThen_ok]
  rfl
/-! ## Maps as words, and back -/
theorem satW_unJ {w0 : World} {D : Nat -> Prop} {b : Nat} {R : MapEntry -> Prop} {W : World} (h : SatW w0 D (HasJ b R) mem W) (hD : ¬ D b) : ∃ ents clock, (∀ e ∈ ents, R e) /\ SatW w0 D noJ ((b, .map ⟨ents⟩ clock) :: mem) W := by
 obtain ⟨h1, h2, ents, clock, h3, h4⟩ := h.word
 refine ⟨ents, clock, h4, h.same, h.dom, ?_, fun p hp => ?_, closed_noJ, trivial⟩
 ·simp only [List.map_cons, List.nodup_cons]
  exact ⟨h2, h.nodup⟩
 ·rcases List.mem_cons.1 hp with rfl | hp
  ·exact ⟨hD, h3⟩
  ·exact h.own p hp
/-- the word's map becomes a block -/
theorem c_unJ {F : Fence} {n : Nat} {ds : List Deferred} {w0 : World} {D : Nat -> Prop} {b : Nat} {R : MapEntry -> Prop} {x : Code} (hD : ¬ D b) (k : ∀ ents clock, (∀ e ∈ ents, R e) -> RunC P N ⟨F, n, ds, w0, D, noJ⟩ x Q env ((b, .map ⟨ents⟩ clock) :: mem)) :
  RunC P N ⟨F, n, ds, w0, D, HasJ b R⟩ x Q env mem := .mk fun a W ha hm => by
 obtain ⟨ents, clock, h1, h2⟩ := satW_unJ hm hD
 exact (k ents clock h1).run a W ha h2
/-- a call wrote the map of the word, and laid blocks -/
theorem satW_J {w0 : World} {D : Nat -> Prop} {b : Nat} {R : MapEntry -> Prop} {W W' : World} {ms : List (Nat × Obj)} (hD : ¬ D b) (h : SatW w0 D (HasJ b R) mem W) (hS : Same (fun k => k ≠ b) W W') {ents : List MapEntry} {clock : Nat} (hb : W'.heap[b]? = some (.map ⟨ents⟩ clock)) (he : ∀ e ∈ ents, R e)
  (hn : (ms.map (·.1)).Nodup) (hms : ∀ p ∈ ms, W.heap.size <= p.1 /\ W'.heap[p.1]? = some p.2) : SatW w0 D (HasJ b R) (ms ++ mem) W' := by
 have h1 := satW_hasJ h hD hS hb he
 have hlt : b < W.heap.size := h.word.1
 have hfar : ∀ k, W.heap.size <= k -> k ∉ mem.map (·.1) /\ ¬ D k := fun k hk => ⟨fun hmm => by
  obtain ⟨p, hp, e⟩ := List.mem_map.1 hmm
  have := h.lt hp
  omega, fun hdd => by have := h.dom _ hdd; have := h.same.size; omega⟩
 refine ⟨h1.same, h1.dom, ?_, fun p hp => ?_, h1.closed, h1.word.1, fun hk => ?_, ents, clock, hb, he⟩
 ·rw [List.map_append, List.nodup_append]
  refine ⟨hn, h1.nodup, fun a ha c hc e => ?_⟩
  obtain ⟨p, hp, rfl⟩ := List.mem_map.1 ha
  exact (hfar _ (hms p hp).1).1 (e ▸ hc)
 ·rcases List.mem_append.1 hp with hp | hp
  ·exact ⟨(hfar _ (hms p hp).1).2, (hms p hp).2⟩
  ·exact h1.own p hp
 ·unfold keys at hk
  rw [List.map_append, List.mem_append] at hk
  rcases hk with hk | hk
  ·obtain ⟨p, hp, e⟩ := List.mem_map.1 hk
   have := (hms p hp).1
   omega
  ·exact h.word.2.1 hk
/-- a call laid blocks -/
theorem satW_L {w0 : World} {D : Nat -> Prop} {J : (Nat -> Prop) -> World -> Prop} {W W' : World} {ms : List (Nat × Obj)} (h : SatW w0 D J mem W) (hb : Below W.heap.size W W')
  (hn : (ms.map (·.1)).Nodup) (hms : ∀ p ∈ ms, W.heap.size <= p.1 /\ W'.heap[p.1]? = some p.2) : SatW w0 D J (ms ++ mem) W' := by
 have h1 := h.later hb
 have hfar : ∀ k, W.heap.size <= k -> k ∉ mem.map (·.1) /\ ¬ D k := fun k hk => ⟨fun hmm => by
  obtain ⟨p, hp, e⟩ := List.mem_map.1 hmm
  have := h.lt hp
  omega, fun hdd => by have := h.dom _ hdd; have := h.same.size; omega⟩
 refine ⟨h1.same, h1.dom, ?_, fun p hp => ?_, h.closed, h.closed _ _ _ _ h.word (Same.of_below_all hb) fun k hk => ?_⟩
 ·rw [List.map_append, List.nodup_append]
  refine ⟨hn, h1.nodup, fun a ha c hc e => ?_⟩
  obtain ⟨p, hp, rfl⟩ := List.mem_map.1 ha
  exact (hfar _ (hms p hp).1).1 (e ▸ hc)
 ·rcases List.mem_append.1 hp with hp | hp
  ·exact ⟨(hfar _ (hms p hp).1).2, (hms p hp).2⟩
  ·exact h1.own p hp
 ·unfold keys at hk
  rw [List.map_append, List.mem_append] at hk
  rcases hk with hk | hk
  ·obtain ⟨p, hp, rfl⟩ := List.mem_map.1 hk
   exact .inr (hms p hp).1
  ·exact .inl hk
/-- a closure's call that hands back blocks -/
theorem r_callvL {d : Nat} {f : FuncId} [Ent P f] {x : Operand} {args : List Operand} {ats : Array TypeId} {vs fs cs ws : List Value} {ι : Type} {v : ι -> Value} {ms : ι -> List (Nat × Obj)} (hw : wantB L env g = some true) (hd : Nat.blt d N = true)
  (hx : evOp env x = some (.func (.func f) ⟨fs⟩ ⟨cs⟩)) (ha : evOps env args some = some vs) (hws : fs ++ vs ++ cs = ws)
  (hc : ∀ W, SatW c.w0 c.D c.J mem W -> Calls P f ⟨ws⟩ W fun e W' => ∃ i, e = .returned (v i) /\ Below W.heap.size W W' /\ ((ms i).map (·.1)).Nodup /\ ∀ p ∈ ms i, W.heap.size <= p.1 /\ W'.heap[p.1]? = some p.2)
  (k : ∀ i, RunL P N c L l Q ((d, v i) :: env) (ms i ++ mem)) : RunL P N c L (⟨some d, .call ⟨.value x, ⟨args⟩, ats⟩, ty, pos, af, g⟩ :: l) Q env mem :=
 l_callv (ι := ι) (v := v) (mem' := fun i => ms i ++ mem) hw hd hx ha hws (fun W hm => (hc W hm).mono fun _ W' ⟨i, h1, h2, h3, h4⟩ => ⟨i, h1, satW_L hm h2 h3 h4⟩) k
end
end Kin
end Go

set_option maxRecDepth 100000
set_option maxHeartbeats 400000000
namespace Go.Proofs
open Go.RowKit Go.Kin Go.Kin.St Go.Kin.Ct Go.Kin.Sg
open R22 (chk chk_fine mtB mtE mt_ok mt_arg tmB metB lkB tf mtV Meets_calls netCells)
namespace R24
noncomputable def kpB (G : Gm) (l : List Int) : Bool := @decide (keptP G l) (Classical.propDecidable _)
def lessOne (l : List Int) : List Int := l.map fun x => x - 1
theorem lessOne_len {l : List Int} : (lessOne l).length = l.length := List.length_map ..
theorem lessOne_tf {l : List Int} {q : Nat} (h : q < l.length) : tf (lessOne l) q = kn l q - 1 := by
 unfold tf lessOne
 rw [List.getD_eq_getElem?_getD, List.getElem?_map, kn_at h]; rfl
theorem tm_less {l : List Int} (h : ∀ x ∈ l, 0 <= x /\ x <= 1000) : tmB (lessOne l) = true ↔ ∀ q, q < l.length -> kn l q ≠ 0 := by
 unfold tmB lessOne
 rw [List.all_eq_true]
 constructor
 ·intro hh q hq e
  have hm : kn l q ∈ l := List.mem_of_getElem? (kn_at hq)
  have := hh (kn l q - 1) (List.mem_map.2 ⟨_, hm, rfl⟩)
  rw [e] at this
  simp at this
 ·intro hh x hx
  obtain ⟨y, hy, rfl⟩ := List.mem_map.1 hx
  obtain ⟨q, hq⟩ := List.getElem?_of_mem hy
  have h1 := hh q (List.getElem?_eq_some_iff.1 hq).1
  rw [kn_get hq] at h1
  have := h y hy
  simp only [decide_eq_true_eq, Bool.and_eq_true]
  omega
open Classical in
theorem kept_eq {G : Gm} {l : List Int} (hc : chk G.n G.L = 0) (hl : l.length = G.n) (hb : ∀ x ∈ l, 0 <= x /\ x <= 1000) : (mtB G.n G.L (lessOne l) && decide (mtE G.n G.L (lessOne l) = 0)) = kpB G l := by
 obtain ⟨_, _, _, hF⟩ := chk_fine hc
 have hlen : ((lessOne l).length : Int) = G.n := by rw [lessOne_len, hl]
 unfold kpB
 by_cases ht : tmB (lessOne l) = true
 ·obtain ⟨h1, h2⟩ := mt_ok hc hlen ht
  rw [h1, h2, decide_eq_true rfl, Bool.and_true]
  have hk := (tm_less hb).1 ht
  rw [hl] at hk
  have key : metB G.L (lessOne l) = true ↔ keptP G l := by
   have hm : metB G.L (lessOne l) = true ↔ ∀ x ∈ G.L, x.lo <= kn l x.to.toNat - kn l x.fr.toNat /\ kn l x.to.toNat - kn l x.fr.toNat <= x.hi := by
    unfold metB
    rw [List.all_eq_true]
    have e : ∀ x ∈ G.L, lkB (lessOne l) x = true ↔ (x.lo <= kn l x.to.toNat - kn l x.fr.toNat /\ kn l x.to.toNat - kn l x.fr.toNat <= x.hi) := fun x hx => by
     have hf := hF x hx
     unfold Lk.Fine at hf
     unfold lkB
     rw [lessOne_tf (by omega), lessOne_tf (by omega)]
     simp only [decide_eq_true_eq]
     omega
    exact ⟨fun h x hx => (e x hx).1 (h x hx), fun h x hx => (e x hx).2 (h x hx)⟩
   rw [hm]
   exact ⟨fun h => ⟨hk, h⟩, fun h => h.2⟩
  cases hh : metB G.L (lessOne l) with
  | true => rw [decide_eq_true (key.1 hh)]
  | false => rw [decide_eq_false (fun g => by rw [key.2 g] at hh; cases hh)]
 ·obtain ⟨h1, h2⟩ := mt_arg (l := G.L) hc (t := lessOne l) (n := G.n) (.inr ht)
  rw [h1, Bool.false_and, decide_eq_false]
  intro h
  exact ht ((tm_less hb).2 (by rw [hl]; exact h.1))
structure KS where
 i : Nat
 b : Nat
 c : Nat
 r : List Value
theorem in_rows (l : List Int) : (l.map inE).flatten.length = l.length * 1 := by
 induction l with
 | nil => rfl
 | cons x l ih => rw [List.map_cons, List.flatten_cons, List.length_append, ih, List.length_cons]; show 1 + _ = _; omega
theorem lessOne_snoc {l : List Int} {i : Nat} (h : i < l.length) : lessOne (l.take (i + 1)) = lessOne (l.take i) ++ [kn l i - 1] := by
 unfold lessOne
 rw [List.take_add_one, kn_at h, List.map_append]; rfl
theorem kept_calls (b : GB) (a : Nat) (k : Int) (l : List Int) (w : World) (hn : b.n <= 6) (hl : l.length = b.n) (hx : ∀ x ∈ l, 0 <= x /\ x <= 1000) (hL : b.L.length <= 1000) (hc : chk b.n b.L = 0) (hg : GIn b a w) :
  Calls Tryz.prog 24 ⟨[.pointer (some ⟨a, 0, none⟩), .agg ⟨plC k (kn l)⟩]⟩ w fun e w' => e = .returned (.bool (kpB b.g l)) /\ Below w.heap.size w w' := by
 have hown := hg.ext
 have hLt := hg.l
 refine fEn Tryz.func24 rfl Tryz.ntmps24 rfl rfl (sWn w) ?_
 have h00 : Ext w (base w) a 0 [.int .i64 b.n] := hown.at cells_0
 have h01 : Ext w (base w) a 1 [.slice b.A b.L.length b.ca] := by
  have := hown.at (i := 1) (v := .slice b.A b.L.length b.ca) rfl
  rwa [Nat.zero_add] at this
 repeat (first|refine lVa rfl rfl (by first|exact pEv rfl|exact vL0 rfl (by assumption) rfl (by rfl)|fail) ?_|refine lNi ?_|refine cRg ?_|refine cSq ?_|refine xTh ?_|refine r_box rfl rfl rfl rfl (fun _ => ?_)|refine cBl ?_|refine lVa rfl rfl (v_sliceArr rfl rfl rfl rfl rfl hn) ?_|fail)
 rename_i b1
 refine c_loop (ι := KS) (fun s => s.i <= b.n /\ gOK inE 1 (lessOne (l.take s.i)) s.c s.r) (fun s => [(0, .pointer (some ⟨a, 0, none⟩)), (5, gSl (lessOne (l.take s.i)) s.b s.c), (16, .slice (some ⟨b1, 0 + 1, none⟩) b.n 6), (17, .int .i64 b.n), (18, .int .i64 s.i)])
  (fun s => (b1, .cells ⟨plC k (kn l)⟩ 54 (0, 0)) :: gM inE 3 (lessOne (l.take s.i)) s.b s.r) (fun s => b.n - s.i) ⟨0, 0, 0, []⟩ ⟨Nat.zero_le _, fun h => absurd rfl h⟩ (by repeat (first|exact .nil|refine .cons rfl (by first|rfl|(congr 1; done)|exact congrArg _ (by omega)|(simp; done)) ?_)) (by repeat (first|exact .nil|refine .keep (by first|rfl|assumption) ?_|refine .drop ?_|exact MSub.refl _)) ?_
 rintro ⟨i, bb, cc, r⟩ ⟨hi, hgr⟩
 simp only at hi hgr ⊢
 obtain ⟨A', k', hA'⟩ := gSl_len (l := lessOne (l.take i)) (b := bb) (cap := cc)
 have hlen : (lessOne (l.take i)).length = i := by rw [lessOne_len, List.length_take]; omega
 have hgr' := fun (_ : Unit) => hgr
 clear hgr
 by_cases hlt : i < b.n
 ·have hpl := plC_get (k := k) (f := kn l) (show i < 6 by omega)
  have hsn := lessOne_snoc (l := l) (i := i) (by omega)
  have hki := hx _ (List.mem_of_getElem? (kn_at (l := l) (q := i) (by omega)))
  rw [hA']
  repeat (first|refine lVa rfl rfl (by first|exact v_sub rfl rfl (by omega) (by omega)|exact pEv rfl|exact v_index rfl rfl rfl rfl (by omega) (by omega) (by with_reducible first|exact idx2 _ _|fail)|exact v_load_at rfl (by repeat constructor) rfl rfl (by first|assumption|fail)|fail) ?_|refine lNi ?_|refine cRg ?_|refine cSq ?_|refine xTh ?_|refine r_buildSlice rfl rfl rfl rfl rfl rfl (by rfl) (fun _ => ?_)|refine c_dec_t rfl (by first|omega|fail) ?_|refine cBl ?_|refine cSk ?_|fail)
  refine r_appendZ (f := inE) (e := 3) (sz := 1) (xs := lessOne (l.take i)) (ys := [kn l i - 1]) (m := 1) rfl rfl (congrArg some hA'.symm) rfl rfl rfl rfl (.inr ⟨_, 0, rfl, news_own (by repeat constructor)⟩) (List.perm_append_comm (l₁ := [_, _])) (hgr' ()) in_rows rfl rfl (by omega) (by unfold maxLen; omega) (fun b8 c8 r8 hg8 => ?_)
  rw [<- hsn] at hg8 ⊢
  refine l_perm List.perm_append_comm ?_
  simp only [List.cons_append, List.nil_append]
  repeat (first|refine lVa rfl rfl (by first|exact v_add rfl rfl (by omega) (by omega)|exact pEv rfl|fail) ?_|refine lNi ?_|refine cRg ?_|refine xTh ?_|refine x_block ?_|fail)
  exact x_back ⟨i + 1, b8, c8, r8⟩ ⟨hlt, hg8⟩ (by simp only; omega) (by repeat (first|exact .nil|refine .cons rfl (by first|rfl|(congr 1; done)|exact congrArg _ (by omega)|(simp; done)) ?_)) (by repeat (first|exact .nil|refine .keep (by first|rfl|assumption) ?_|refine .drop ?_|exact MSub.refl _))
 ·have hie : i = b.n := by omega
  subst hie
  rw [show l.take b.n = l by rw [<- hl, List.take_length]] at hA' hgr' hlen ⊢
  rw [hA']
  repeat (first|refine lVa rfl rfl (by first|exact pEv rfl|fail) ?_|refine lNi ?_|refine cRg ?_|refine cSq ?_|refine xTh ?_|refine c_dec_f rfl (by first|omega|fail) ?_|refine c_exit ?_|refine xTe ?_|refine xBs ?_|refine c_reads rfl (by decide +kernel) ?_|refine q_val rfl rfl (by first|exact pEv rfl|exact vL0 rfl (by assumption) rfl (by rfl)|exact v_build rfl rfl (by rfl)|fail) ?_|fail)
  refine q_call (v := mtV b.n b.L (lessOne l)) rfl rfl rfl (fun W hW => ?_) ?_
  ·obtain ⟨A2, c2, h1, h2⟩ := at_gM (cap := cc) hW (f := inE) (sz := 1) (l := lessOne l) (b := bb) (rest := r) (fun p hp => List.mem_cons_of_mem _ hp) (fun _ => rfl)
   rw [<- hA', h1]
   exact Meets_calls b.n b.A A2 b.ca c2 b.L (lessOne l) W hL (by omega) (hLt.sat hW) h2
  unfold mtV
  have hke := kept_eq (G := b.g) (l := l) hc hl hx
  obtain ⟨x1, hx1⟩ : ∃ x, mtB b.n b.L (lessOne l) = x := ⟨_, rfl⟩
  obtain ⟨x2, hx2⟩ : ∃ x, mtE b.n b.L (lessOne l) = x := ⟨_, rfl⟩
  have hke : (x1 && decide (x2 = 0)) = kpB b.g l := by rw [<- hke, <- hx1, <- hx2]
  rw [hx1, hx2]
  clear hx1 hx2
  cases x1 with
  | false =>
   repeat (first|refine lVa rfl rfl (by first|exact pEv rfl|fail) ?_|refine lNi ?_|refine cRg ?_|refine cSq ?_|refine xTh ?_|refine l_skip rfl rfl ?_|refine c_ret ?_|refine q_val rfl rfl (by first|exact pEv rfl|fail) ?_|refine q_nil ?_|fail)
   exact x_ret rfl rfl (by repeat constructor) rfl (fun W hW => ⟨by rw [<- hke]; rfl, hW.below⟩)
  | true =>
   repeat (first|refine lVa rfl rfl (by first|exact pEv rfl|fail) ?_|refine lNi ?_|refine cRg ?_|refine cSq ?_|refine xTh ?_|refine c_ret ?_|refine q_val rfl rfl (by first|exact pEv rfl|fail) ?_|refine q_nil ?_|fail)
   exact x_ret rfl rfl (by repeat constructor) rfl (fun W hW => ⟨by rw [<- hke]; rfl, hW.below⟩)
end R24
end Go.Proofs

set_option maxRecDepth 100000
set_option maxHeartbeats 400000000
namespace Go.Proofs
open Go.RowKit Go.Kin Go.Kin.St Go.Kin.Ct Go.Kin.Sg
namespace R24
/-- the addresses of a closure over choices -/
structure CB where
 b4 : Nat
 b5 : Nat
 b6 : Nat
 b7 : Nat
 ba : Nat
 ca : Nat
 ra : List Value
 bm : Nat
 cm : Nat
 rm : List Value
def CB.lb (c : CB) : List Value := [.pointer (some ⟨c.b5, 0, none⟩), .pointer (some ⟨c.b6, 0, none⟩), .pointer (some ⟨c.b4, 0, none⟩), .pointer (some ⟨c.b7, 0, none⟩)]
@[reducible] def CB.v (c : CB) : Value := .func (.func 84) ⟨[]⟩ ⟨c.lb⟩
def bx4 (b4 b5 b6 b7 : Nat) (k : Int) (f : Nat -> Int) (la : Int) (X Y : Value) : List (Nat × Obj) := [(b7, .cells ⟨[.int .i64 la]⟩ 3 (0, 0)), (b6, .cells ⟨[Y]⟩ 37 (0, 0)), (b5, .cells ⟨[X]⟩ 37 (0, 0)), (b4, .cells ⟨plC k f⟩ 54 (0, 0))]
def CB.ms (c : CB) (k : Int) (f : Nat -> Int) (la : Int) (ps must : List Nat) : List (Nat × Obj) := bx4 c.b4 c.b5 c.b6 c.b7 k f la (gSl ps c.ba c.ca) (gSl must c.bm c.cm) ++ (gM nE 3 ps c.ba c.ra ++ gM nE 3 must c.bm c.rm)
def CB.OK (c : CB) (ps must : List Nat) : Prop := gOK nE 1 ps c.ca c.ra /\ gOK nE 1 must c.cm c.rm
/-- a closure over choices in new memory -/
def MovQ (k : Int) (f : Nat -> Int) (la : Int) (ps must : List Nat) (w : World) (e : Ending) (w' : World) : Prop :=
 ∃ c : CB, c.OK ps must /\ e = .returned c.v /\ Below w.heap.size w w' /\ ((c.ms k f la ps must).map (·.1)).Nodup /\ ∀ p ∈ c.ms k f la ps must, w.heap.size <= p.1 /\ w'.heap[p.1]? = some p.2
theorem movQ_of {k : Int} {f : Nat -> Int} {la : Int} {ps must : List Nat} {w W : World} {mem : List (Nat × Obj)} (c : CB) (hc : c.OK ps must) (hW : SatW w (base w) noJ mem W) (hs : List.Sublist (c.ms k f la ps must) mem) : MovQ k f la ps must w (.returned c.v) W :=
 ⟨c, hc, rfl, hW.below, (hW.mono hs).nodup, fun p hp => ⟨Nat.le_of_not_lt (hW.own p (hs.subset hp)).1, (hW.own p (hs.subset hp)).2⟩⟩
/-- the iterator of a closure whose memory lies -/
theorem cb_it {w0 W W1 : World} {D : Nat -> Prop} {J : (Nat -> Prop) -> World -> Prop} {mem : List (Nat × Obj)} (c : CB) {k : Int} {f : Nat -> Int} {la : Int} {ps must : List Nat} (hn : ps.length <= 6) (hmu : must.length <= 6) (hps : ∀ q ∈ ps, q < 6) (hk : 0 <= k /\ k <= 100) (hla : 0 <= la /\ la <= 1)
  (hm : SatW w0 D J mem W) (hs : ∀ p ∈ c.ms k f la ps must, p ∈ mem) (hS : Same (fun _ => True) W W1) :
  ItH Tryz.prog 84 c.lb (chH k f la) (allCh ps must) (fun x => x ∈ (c.ms k f la ps must).map (·.1)) W1 := by
 obtain ⟨ks, hks⟩ : ∃ ks : List Nat, ks = (c.ms k f la ps must).map (·.1) := ⟨_, rfl⟩
 have hin : ∀ p ∈ c.ms k f la ps must, p.1 ∈ ks := fun p hp => by rw [hks]; exact List.mem_map.2 ⟨p, hp, rfl⟩
 have hb : ∀ p ∈ c.ms k f la ps must, W1.heap[p.1]? = some p.2 := fun p hp => hS.obj (hm.own p (hs p hp)).2 trivial
 have ex : ∀ (b : Nat) (cs : List Value) (T : Nat), (b, Obj.cells ⟨cs⟩ T (0, 0)) ∈ c.ms k f la ps must -> Ext W1 (fun x => x ∈ ks) b 0 cs := fun b cs T hp => ⟨hin _ hp, fun i v hi => by
  have := hb _ hp
  simp only at this
  unfold World.cell?
  rw [this, Nat.zero_add]
  simpa using hi⟩
 have ar : ∀ (l : List Nat) (b cap : Nat) (rest : List Value), (∀ p ∈ gM nE 3 l b rest, p ∈ c.ms k f la ps must) -> ∃ A c', gSl l b cap = .slice A l.length c' /\ Ar W1 (fun x => x ∈ ks) A 1 (l.map nE) := fun l b cap rest hp => by
  cases l with
  | nil => exact ⟨none, 0, rfl, Ar.nil⟩
  | cons x l =>
   have h1 := ex b _ _ (hp _ List.mem_cons_self)
   refine ⟨_, _, rfl, fun i r hr => ⟨b, 0, rfl, ⟨h1.dom, fun j v hj => ?_⟩⟩⟩
   have h2 := rowAt_flatten (rest := rest) (sz := 1) (fun r hr => by obtain ⟨y, _, rfl⟩ := List.mem_map.1 hr; rfl) hr
   have h3 := h1.cell _ v (h2.get hj)
   rw [Nat.zero_add] at h3 ⊢
   exact h3
 obtain ⟨A, ca, hA, hAr⟩ := ar ps c.ba c.ca c.ra fun p hp => by unfold CB.ms; simp [hp]
 obtain ⟨B, cb, hB, hBr⟩ := ar must c.bm c.cm c.rm fun p hp => by unfold CB.ms; simp [hp]
 have e1 := ex c.b5 _ _ (show (c.b5, Obj.cells ⟨[gSl ps c.ba c.ca]⟩ 37 (0, 0)) ∈ c.ms k f la ps must by unfold CB.ms bx4; simp)
 have e2 := ex c.b6 _ _ (show (c.b6, Obj.cells ⟨[gSl must c.bm c.cm]⟩ 37 (0, 0)) ∈ c.ms k f la ps must by unfold CB.ms bx4; simp)
 have e3 := ex c.b4 _ _ (show (c.b4, Obj.cells ⟨plC k f⟩ 54 (0, 0)) ∈ c.ms k f la ps must by unfold CB.ms bx4; simp)
 have e4 := ex c.b7 _ _ (show (c.b7, Obj.cells ⟨[.int .i64 la]⟩ 3 (0, 0)) ∈ c.ms k f la ps must by unfold CB.ms bx4; simp)
 rw [hA] at e1
 rw [hB] at e2
 rw [<- hks]
 exact choices_it (fun x => x ∈ ks) c.b4 c.b5 c.b6 c.b7 A B ca cb k f ps must la W1 (fun x hx => by
  rw [hks] at hx
  obtain ⟨p, hp, rfl⟩ := List.mem_map.1 hx
  exact lt_of_heap (hb p hp)) e1 e2 e3 e4 hAr hBr hn hmu hps hk hla
theorem choices_calls (k : Int) (f : Nat -> Int) (la : Int) (ps must : List Nat) (ba ca bm cm : Nat) (w : World) :
  Calls Tryz.prog 53 ⟨[.agg ⟨plC k f⟩, gSl ps ba ca, gSl must bm cm, .int .i64 la]⟩ w fun e w' => ∃ b : Nat × Nat × Nat × Nat, e = .returned (.func (.func 84) ⟨[]⟩ ⟨[.pointer (some ⟨b.2.1, 0, none⟩), .pointer (some ⟨b.2.2.1, 0, none⟩), .pointer (some ⟨b.1, 0, none⟩), .pointer (some ⟨b.2.2.2, 0, none⟩)]⟩) /\
   Below w.heap.size w w' /\ ((bx4 b.1 b.2.1 b.2.2.1 b.2.2.2 k f la (gSl ps ba ca) (gSl must bm cm)).map (·.1)).Nodup /\ ∀ p ∈ bx4 b.1 b.2.1 b.2.2.1 b.2.2.2 k f la (gSl ps ba ca) (gSl must bm cm), w.heap.size <= p.1 /\ w'.heap[p.1]? = some p.2 := by
 refine fEn Tryz.func53 rfl Tryz.ntmps53 rfl rfl (sWn w) ?_
 repeat (first|refine r_box rfl rfl rfl gSl_cells (fun _ => ?_)|refine lVa rfl rfl (by first|exact pEv rfl|fail) ?_|refine lNi ?_|refine cRg ?_|refine cSq ?_|refine xTh ?_|refine r_box rfl rfl rfl rfl (fun _ => ?_)|refine c_ret ?_|fail)
 refine x_ret rfl rfl (by repeat constructor) rfl (fun W hW => ?_)
 rename_i b4 b5 b6 b7
 exact ⟨(b4, b5, b6, b7), rfl, hW.below, hW.nodup, fun p hp => ⟨Nat.le_of_not_lt (hW.own p hp).1, (hW.own p hp).2⟩⟩
/-- the closure's addresses, with what `may` hands back -/
structure LL where
 b : Nat
 c : Nat
 r : List Value
 b' : Nat
 c' : Nat
 r' : List Value
theorem GIn.later {b : GB} {a : Nat} {w w' : World} (h : GIn b a w) (k : Later w w') : GIn b a w' := ⟨fun j v hj => k.cell (h.own j v hj), h.l.later k, h.c.later k⟩
theorem movO_calls (b : GB) (a bg : Nat) (k : Int) (f : Nat -> Int) (w : World) (hn : b.n <= 6) (hk : 0 <= k /\ k <= 100) (hf : ∀ q, 0 <= f q /\ f q <= 1000) (hR : Rt b) (hc : b.C.length <= 1000) (hg : GIn b a w) (hbg : w.cell? ⟨bg, 0, none⟩ = some (.pointer (some ⟨a, 0, none⟩))) :
  Calls Tryz.prog 52 ⟨[.agg ⟨plC k f⟩, .pointer (some ⟨bg, 0, none⟩)]⟩ w (MovQ k f 0 (flt (mayF b.C k f) b.n) (flt (dueF b.C k f) b.n) w) := by
 have hE : Ext w (base w) bg 0 [.pointer (some ⟨a, 0, none⟩)] := ext_of fun j v hj => by
  cases j with
  | zero => cases hj; exact hbg
  | succ j => cases hj
 refine fEn Tryz.func52 rfl Tryz.ntmps52 rfl rfl (sWn w) ?_
 obtain ⟨l, hl⟩ : ∃ l, flt (mayF b.C k f) b.n = l := ⟨_, rfl⟩
 obtain ⟨m, hm⟩ : ∃ m, flt (dueF b.C k f) b.n = m := ⟨_, rfl⟩
 rw [hl, hm]
 repeat (first|refine lVa rfl rfl (v_loadAll rfl (by repeat constructor) rfl rfl plC_len) ?_|refine lVa rfl rfl (by first|exact pEv rfl|exact vL0 rfl (by assumption) rfl (by rfl)|fail) ?_|refine lNi ?_|refine cRg ?_|refine cSq ?_|refine xTh ?_|refine r_box rfl rfl rfl rfl (fun _ => ?_)|fail)
 refine r_callL (ι := { x : LL // gOK nE 1 l x.c x.r /\ gOK nE 1 m x.c' x.r' }) (v := fun x => .tuple ⟨[gSl l x.1.b x.1.c, gSl m x.1.b' x.1.c']⟩) (ms := fun x => gM nE 3 l x.1.b x.1.r ++ gM nE 3 m x.1.b' x.1.r') rfl rfl rfl (fun W hW => ?_) ?_
 ·refine (may_calls b a k f W hn ⟨hk.1, by omega⟩ hf hR hc (hg.later hW.below)).mono ?_
  rintro e W' ⟨b1, c1, r1, b2, c2, r2, he, h1, h2, h3, h4, h5⟩
  rw [hl, hm] at *
  exact ⟨⟨⟨b1, c1, r1, b2, c2, r2⟩, h1, h2⟩, he, h3, h5, h4⟩
 rintro ⟨⟨b1, c1, r1, b2, c2, r2⟩, g1, g2⟩
 simp only at g1 g2 ⊢
 repeat (first|refine lVa rfl rfl (v_loadAll rfl (List.mem_append_right _ (by repeat constructor)) rfl rfl plC_len) ?_|refine lVa rfl rfl (by first|exact pEv rfl|fail) ?_|refine lNi ?_|refine cRg ?_|refine cSq ?_|refine xTh ?_|fail)
 refine r_callL (ι := Nat × Nat × Nat × Nat) rfl rfl rfl (fun W hW => choices_calls k f 0 l m b1 c1 b2 c2 W) ?_
 rintro ⟨b4, b5, b6, b7⟩
 repeat (first|refine lVa rfl rfl (by first|exact pEv rfl|fail) ?_|refine lNi ?_|refine xTh ?_|refine c_ret ?_|fail)
 refine x_ret rfl rfl (by repeat constructor) rfl (fun W hW => ?_)
 exact movQ_of ⟨b4, b5, b6, b7, b1, c1, r1, b2, c2, r2⟩ ⟨g1, g2⟩ hW ((List.sublist_append_left _ _).append_left _)
end R24
end Go.Proofs

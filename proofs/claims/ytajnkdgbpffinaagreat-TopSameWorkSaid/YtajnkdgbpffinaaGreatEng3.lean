/- The engine's rules: indexing, calls, loops, ends, regions that draw their order. Generic: no program is named here. -/
import Derived.Test.YtajnkdgbpffinaaGreatEng2
set_option linter.unusedSectionVars false
set_option linter.unusedVariables false
set_option linter.unusedSimpArgs false
namespace Go
open Go.RowKit
namespace Kin
section
variable {P : Program} {N : Nat} {c : Cx} {Q : Exit -> Act -> World -> Prop} {env : List (Nat × Value)} {mem : List (Nat × Obj)} {L l : List Oper} [Wide c.F]
 {tt : List (TypeId × TI)} {d : Nat} {ty : TypeId} {pos : String} {af : Array Edge} {g : Option (Nat × Bool)} {dd : Option Tmp}

/-! ## Indexing -/
theorem addr_add (b o n : Nat) : (⟨b, o, none⟩ : Addr).add n = ⟨b, o + n, none⟩ := by
 unfold Addr.add; split
 ·rename_i h; subst h; rfl
 ·rfl

theorem p_indexSlice {t e sz b o len cap : Nat} {x ix : Operand} {a : Act} {W : World} {kd : IntKind} {i : Int} {ti : TypeInfo} (hu : P.underlying t = some (.slice e)) (hi : P.info? e = some ti) (hs : ti.size = sz)
  (hx : a.eval x = .slice (some ⟨b, o, none⟩) len cap) (hix : a.eval ix = .int kd i) (h1 : 0 <= i) (h2 : i < len) :
  (execOp a.eval ⟨dd, .indexAddr t x ix, ty, pos, af, g⟩).run P W = .ok (.value (.pointer (some ⟨b, o + i.toNat * sz, none⟩))) W := by
 subst hs
 simp [execOp, hx, hix, Instr.indexAt, asIntOf, Sem.run_bind, run_und hu, run_size hi, h1, h2, addr_add]

theorem p_indexArray {t n e sz b o : Nat} {x ix : Operand} {a : Act} {W : World} {kd : IntKind} {i : Int} {ti : TypeInfo} (hu : P.underlying t = some (.array n e)) (hi : P.info? e = some ti) (hs : ti.size = sz)
  (hx : a.eval x = .pointer (some ⟨b, o, none⟩)) (hix : a.eval ix = .int kd i) (h1 : 0 <= i) (h2 : i < n) :
  (execOp a.eval ⟨dd, .indexAddr t x ix, ty, pos, af, g⟩).run P W = .ok (.value (.pointer (some ⟨b, o + i.toNat * sz, none⟩))) W := by
 subst hs
 simp [execOp, hx, hix, Instr.indexAt, Instr.sureAddr, asIntOf, Sem.run_bind, run_und hu, run_size hi, h1, h2, addr_add]

theorem v_index [T : TT P tt] {t e b o len cap off sz bt sz' bt' : Nat} {x ix : Operand} {kd : IntKind} {i : Int} {z z' : Value} {ke : TK} (hx : evOp env x = some (.slice (some ⟨b, o, none⟩) len cap)) (hix : evOp env ix = some (.int kd i))
  (ht : look tt t = some ⟨.slice e, sz', bt', z'⟩) (hte : look tt e = some ⟨ke, sz, bt, z⟩) (h1 : 0 <= i) (h2 : i < len) (ho : o + i.toNat * sz = off) :
  OpVal P N c env mem ⟨dd, .indexAddr t x ix, ty, pos, af, g⟩ (.pointer (some ⟨b, off, none⟩)) := ⟨rfl, fun a W ha _ => by
 obtain ⟨_, hi, h3⟩ := (TT.look (P := P) hte).size
 rw [p_indexSlice (TT.look (P := P) ht).1 hi h3 (ha.eval hx) (ha.eval hix) h1 h2, ho]⟩

theorem v_indexA [T : TT P tt] {t n e b o off sz bt sz' bt' : Nat} {x ix : Operand} {kd : IntKind} {i : Int} {z z' : Value} {ke : TK} (hx : evOp env x = some (.pointer (some ⟨b, o, none⟩))) (hix : evOp env ix = some (.int kd i))
  (ht : look tt t = some ⟨.array n e, sz', bt', z'⟩) (hte : look tt e = some ⟨ke, sz, bt, z⟩) (h1 : 0 <= i) (h2 : i < n) (ho : o + i.toNat * sz = off) :
  OpVal P N c env mem ⟨dd, .indexAddr t x ix, ty, pos, af, g⟩ (.pointer (some ⟨b, off, none⟩)) := ⟨rfl, fun a W ha _ => by
 obtain ⟨_, hi, h3⟩ := (TT.look (P := P) hte).size
 rw [p_indexArray (TT.look (P := P) ht).1 hi h3 (ha.eval hx) (ha.eval hix) h1 h2, ho]⟩

theorem idx1 (k : Nat) : 0 + ((k : Nat) : Int).toNat * 1 = k := by omega
theorem idx2 (o k : Nat) : o + ((k : Nat) : Int).toNat * 1 = o + k := by omega
theorem idx3 (k s : Nat) : 0 + ((k : Nat) : Int).toNat * s = k * s := by rw [Int.toNat_natCast, Nat.zero_add]
theorem idx4 (o k s : Nat) : o + ((k : Nat) : Int).toNat * s = o + k * s := by rw [Int.toNat_natCast]
theorem idx5 (i : Int) : 0 + i.toNat * 1 = i.toNat := by omega
theorem idx6 (o : Nat) (i : Int) : o + i.toNat * 1 = o + i.toNat := by omega
theorem idx8 (o : Nat) (i : Int) (s : Nat) : o + i.toNat * s = o + i.toNat * s := rfl

/-! ## Calls -/
theorem p_call {f : FuncId} [E : Ent P f] {args : List Operand} {ats : Array TypeId} {a : Act} {W : World} :
  (execOp a.eval ⟨dd, .call ⟨.value (.func f), ⟨args⟩, ats⟩, ty, pos, af, g⟩).run P W = .ok (.enter f ⟨args.map a.eval⟩) W := by
 simp only [execOp, resolve, Act.eval, Deferred.ofValue, Sem.run_bind]
 show (((invoke (.fn (.func f) #[]) (#[] ++ (⟨args⟩ : Array Operand).map a.eval)).run P W)) = _
 simp only [invoke]
 rw [E.ok]
 simp

theorem p_callv {f : FuncId} [E : Ent P f] {x : Operand} {args : List Operand} {ats : Array TypeId} {a : Act} {W : World} {fs cs : List Value} (hx : a.eval x = .func (.func f) ⟨fs⟩ ⟨cs⟩) :
  (execOp a.eval ⟨dd, .call ⟨.value x, ⟨args⟩, ats⟩, ty, pos, af, g⟩).run P W = .ok (.enter f ⟨fs ++ args.map a.eval ++ cs⟩) W := by
 simp only [execOp, resolve, hx, Deferred.ofValue, Sem.run_bind]
 show (((invoke (.fn (.func f) ⟨cs⟩) (⟨fs⟩ ++ (⟨args⟩ : Array Operand).map a.eval)).run P W)) = _
 simp only [invoke]
 rw [E.ok]
 simp

theorem calls_upon {f : FuncId} {vs : Array Value} {a : Act} {W : World} {next : Act -> World -> Prop} {o : Oper} {ι : Type} {v : ι -> Value} {mem' : ι -> List (Nat × Obj)}
  (hc : Calls P f vs W fun e W' => ∃ i, e = .returned (v i) /\ SatW c.w0 c.D c.J (mem' i) W') (hn : ∀ i W', SatW c.w0 c.D c.J (mem' i) W' -> next (a.put o.dst (v i)) W') :
  o.uponIn c.F c.n P a next Q (.ok (.enter f vs) W) := by
 refine ⟨Wide.depth c.F c.n, (Wide.calls (F := c.F) hc).mono ?_⟩
 rintro e W' ⟨i, rfl, hW⟩
 exact hn i W' hW

theorem l_call {f : FuncId} [Ent P f] {args : List Operand} {ats : Array TypeId} {vs : List Value} {ι : Type} {v : ι -> Value} {mem' : ι -> List (Nat × Obj)} (hw : wantB L env g = some true) (hd : Nat.blt d N = true) (ha : evOps env args some = some vs)
  (hc : ∀ W, SatW c.w0 c.D c.J mem W -> Calls P f ⟨vs⟩ W fun e W' => ∃ i, e = .returned (v i) /\ SatW c.w0 c.D c.J (mem' i) W')
  (k : ∀ i, RunL P N c L l Q ((d, v i) :: env) (mem' i)) : RunL P N c L (⟨some d, .call ⟨.value (.func f), ⟨args⟩, ats⟩, ty, pos, af, g⟩ :: l) Q env mem :=
 l_run hw fun a W hA hm => by
  have h1 := hA.evals ha
  simp only [Option.some.injEq] at h1
  rw [semAt_plain _ rfl, p_call, h1]
  exact calls_upon (hc W hm) fun i W' hW => (k i).run _ _ (hA.put hd _) hW

theorem l_callv {f : FuncId} [Ent P f] {x : Operand} {args : List Operand} {ats : Array TypeId} {vs fs cs ws : List Value} {ι : Type} {v : ι -> Value} {mem' : ι -> List (Nat × Obj)} (hw : wantB L env g = some true) (hd : Nat.blt d N = true)
  (hx : evOp env x = some (.func (.func f) ⟨fs⟩ ⟨cs⟩)) (ha : evOps env args some = some vs) (hws : fs ++ vs ++ cs = ws)
  (hc : ∀ W, SatW c.w0 c.D c.J mem W -> Calls P f ⟨ws⟩ W fun e W' => ∃ i, e = .returned (v i) /\ SatW c.w0 c.D c.J (mem' i) W')
  (k : ∀ i, RunL P N c L l Q ((d, v i) :: env) (mem' i)) : RunL P N c L (⟨some d, .call ⟨.value x, ⟨args⟩, ats⟩, ty, pos, af, g⟩ :: l) Q env mem :=
 l_run hw fun a W hA hm => by
  subst hws
  have h1 := hA.evals ha
  simp only [Option.some.injEq] at h1
  rw [semAt_plain _ rfl, p_callv (hA.eval hx), h1]
  exact calls_upon (hc W hm) fun i W' hW => (k i).run _ _ (hA.put hd _) hW

/-- a call that leaves all that lay as it lay -/
theorem r_call {f : FuncId} [Ent P f] {args : List Operand} {ats : Array TypeId} {vs : List Value} {v : Value} (hw : wantB L env g = some true) (hd : Nat.blt d N = true) (ha : evOps env args some = some vs)
  (hc : ∀ W, SatW c.w0 c.D c.J mem W -> Calls P f ⟨vs⟩ W fun e W' => e = .returned v /\ Under W.heap.size W W')
  (k : RunL P N c L l Q ((d, v) :: env) mem) : RunL P N c L (⟨some d, .call ⟨.value (.func f), ⟨args⟩, ats⟩, ty, pos, af, g⟩ :: l) Q env mem :=
 l_call (ι := Unit) (v := fun _ => v) (mem' := fun _ => mem) hw hd ha (fun W hm => (hc W hm).mono fun _ _ ⟨h1, h2⟩ => ⟨(), h1, hm.later h2⟩) fun _ => k

theorem r_callv {f : FuncId} [Ent P f] {x : Operand} {args : List Operand} {ats : Array TypeId} {vs fs cs ws : List Value} {v : Value} (hw : wantB L env g = some true) (hd : Nat.blt d N = true)
  (hx : evOp env x = some (.func (.func f) ⟨fs⟩ ⟨cs⟩)) (ha : evOps env args some = some vs) (hws : fs ++ vs ++ cs = ws)
  (hc : ∀ W, SatW c.w0 c.D c.J mem W -> Calls P f ⟨ws⟩ W fun e W' => e = .returned v /\ Under W.heap.size W W')
  (k : RunL P N c L l Q ((d, v) :: env) mem) : RunL P N c L (⟨some d, .call ⟨.value x, ⟨args⟩, ats⟩, ty, pos, af, g⟩ :: l) Q env mem :=
 l_callv (ι := Unit) (v := fun _ => v) (mem' := fun _ => mem) hw hd hx ha hws (fun W hm => (hc W hm).mono fun _ _ ⟨h1, h2⟩ => ⟨(), h1, hm.later h2⟩) fun _ => k

/-- a call that hands back memory of its own: one block -/
theorem r_call1 {f : FuncId} [Ent P f] {args : List Operand} {ats : Array TypeId} {vs : List Value} {ι : Type} {v : ι -> Value} {bk : ι -> Nat} {o : ι -> Obj} (hw : wantB L env g = some true) (hd : Nat.blt d N = true) (ha : evOps env args some = some vs)
  (hc : ∀ W, SatW c.w0 c.D c.J mem W -> Calls P f ⟨vs⟩ W fun e W' => ∃ i, e = .returned (v i) /\ Under W.heap.size W W' /\ W.heap.size <= bk i /\ W'.heap[bk i]? = some (o i))
  (k : ∀ i, RunL P N c L l Q ((d, v i) :: env) ((bk i, o i) :: mem)) : RunL P N c L (⟨some d, .call ⟨.value (.func f), ⟨args⟩, ats⟩, ty, pos, af, g⟩ :: l) Q env mem :=
 l_call (ι := ι) (v := v) (mem' := fun i => (bk i, o i) :: mem) hw hd ha (fun W hm => (hc W hm).mono fun _ W' ⟨i, h1, h2, h3, h4⟩ => ⟨i, h1, by
  have hm2 := hm.later h2
  refine ⟨hm2.same, hm2.dom, ?_, ?_, hm.closed, hm.closed _ _ _ _ hm.word (Same.of_below_all h2) fun b hb => ?_⟩
  ·simp only [List.map_cons, List.nodup_cons]
   refine ⟨fun hmm => ?_, hm2.nodup⟩
   obtain ⟨p, hp, e⟩ := List.mem_map.1 hmm
   have := hm.lt hp
   omega
  ·intro p hp
   rcases List.mem_cons.1 hp with rfl | hp
   ·exact ⟨fun hdd => by have := hm.dom _ hdd; have := hm.same.size; simp only at *; omega, h4⟩
   ·exact hm2.own p hp
  ·simp only [keys, List.map_cons, List.mem_cons] at hb
   rcases hb with rfl | hb
   ·exact .inr h3
   ·exact .inl hb⟩) k

/-! ## Loops -/
inductive EnvSub (env : List (Nat × Value)) : List (Nat × Value) -> Prop
 | nil : EnvSub env []
 | cons {s : Nat} {v v' : Value} {env' : List (Nat × Value)} (h : look env s = some v') (e : v' = v) (t : EnvSub env env') : EnvSub env ((s, v) :: env')

theorem EnvSub.sat {ds : List Deferred} {env' : List (Nat × Value)} (h : EnvSub env env') {a : Act} (ha : SatA N ds env a) : SatA N ds env' a := by
 refine ⟨ha.size, ha.defers, ?_⟩
 induction h with
 | nil => intro s v hs; cases hs
 | cons h e _ ih =>
  intro s v hs
  rw [look_cons] at hs
  split at hs
  ·rename_i e2; subst e2; cases hs; subst e; exact ha.env _ _ h
  ·exact ih s v hs

inductive MSub : List (Nat × Obj) -> List (Nat × Obj) -> Prop
 | nil {m : List (Nat × Obj)} : MSub m []
 | keep {b : Nat} {o o' : Obj} {m m' : List (Nat × Obj)} (e : o = o') (t : MSub m m') : MSub ((b, o) :: m) ((b, o') :: m')
 | drop {x : Nat × Obj} {m m' : List (Nat × Obj)} (t : MSub m m') : MSub (x :: m) m'

theorem MSub.sub {m m' : List (Nat × Obj)} (h : MSub m m') : List.Sublist m' m := by
 induction h with
 | nil => exact List.nil_sublist _
 | keep e _ ih => subst e; exact ih.cons_cons _
 | drop _ ih => exact ih.cons _

/-- Back at a loop's head, lower. -/
structure Back (N : Nat) (c : Cx) {ι : Type} (I : ι -> Prop) (E : ι -> List (Nat × Value)) (M : ι -> List (Nat × Obj)) (μ : ι -> Nat) (i : ι) (a : Act) (W : World) : Prop where
 ex : ∃ j, I j /\ μ j < μ i /\ SatA N c.ds (E j) a /\ SatW c.w0 c.D c.J (M j) W

theorem least {p : Nat -> Prop} (h : ∃ n, p n) : ∃ n, p n /\ ∀ m, p m -> n <= m := by
 obtain ⟨n, hn⟩ := h
 induction n using Nat.strongRecOn with
 | _ n ih =>
  by_cases h2 : ∃ m, m < n /\ p m
  ·obtain ⟨m, h3, h4⟩ := h2; exact ih m h3 h4
  ·exact ⟨n, hn, fun m hm => Nat.le_of_not_lt fun hlt => h2 ⟨m, hlt, hm⟩⟩

theorem c_loop {body : Code} {ι : Type} (I : ι -> Prop) (E : ι -> List (Nat × Value)) (M : ι -> List (Nat × Obj)) (μ : ι -> Nat) (i0 : ι) (h0 : I i0) (hE : EnvSub env (E i0)) (hM : MSub mem (M i0))
  (round : ∀ i, I i -> RunC P N c body (Exit.then (Back N c I E M μ i) Q) (E i) (M i)) : RunC P N c (.loop body) Q env mem := .mk fun a W ha hm => by
 classical
 let p : Act -> World -> Nat -> Prop := fun a W n => ∃ j, I j /\ μ j = n /\ SatA N c.ds (E j) a /\ SatW c.w0 c.D c.J (M j) W
 let ν : Act -> World -> Nat := fun a W => if h : ∃ n, p a W n then Classical.choose (least h) else 0
 have hν : ∀ a W, (h : ∃ n, p a W n) -> p a W (ν a W) /\ ∀ m, p a W m -> ν a W <= m := fun a W h => by
  show p a W (if h : ∃ n, p a W n then Classical.choose (least h) else 0) /\ ∀ m, p a W m -> (if h : ∃ n, p a W n then Classical.choose (least h) else 0) <= m
  rw [dif_pos h]; exact Classical.choose_spec (least h)
 refine wpIn_loop (fun a W => ∃ n, p a W n) ν ⟨_, i0, h0, rfl, hE.sat ha, hm.mono hM.sub⟩ ?_
 intro a W hp
 obtain ⟨⟨j, h1, h2, h3, h4⟩, _⟩ := hν a W hp
 refine wpIn_mono ((round j h1).run a W h3 h4) ?_
 rintro e a' W' hq
 cases e with
 | normal =>
  obtain ⟨j', k1, k2, k3, k4⟩ := hq.ex
  have hp' : ∃ n, p a' W' n := ⟨_, j', k1, rfl, k3, k4⟩
  exact ⟨hp', by have := (hν a' W' hp').2 _ ⟨j', k1, rfl, k3, k4⟩; omega⟩
 | _ => exact hq

theorem x_back {ι : Type} {I : ι -> Prop} {E : ι -> List (Nat × Value)} {M : ι -> List (Nat × Obj)} {μ : ι -> Nat} {i : ι} {Q' : Exit -> Act -> World -> Prop} (j : ι) (hI : I j) (hμ : μ j < μ i) (hE : EnvSub env (E j)) (hM : MSub mem (M j)) :
  RunX N c (Exit.then (Back N c I E M μ i) Q') .normal env mem := .mk fun a W ha hm => ⟨⟨j, hI, hμ, hE.sat ha, hm.mono hM.sub⟩⟩

/-! ## A function's beginning and its end -/
def enumK {β : Type} : Nat -> List Value -> (List (Nat × Value) -> Option β) -> Option β
 | _, [], k => k []
 | n, v :: vs, k => enumK (n + 1) vs fun r => k ((n, v) :: r)

theorem enumK_eq {β : Type} {n : Nat} {vs : List Value} {k : List (Nat × Value) -> Option β} {r : β} (h : enumK n vs k = some r) :
  ∃ e, k e = some r /\ ∀ s v, look e s = some v -> n <= s /\ vs[s - n]? = some v := by
 induction vs generalizing n k with
 | nil => exact ⟨[], h, fun s v hs => by cases hs⟩
 | cons x vs ih =>
  obtain ⟨e, h1, h2⟩ := ih h
  refine ⟨(n, x) :: e, h1, fun s v hs => ?_⟩
  rw [look_cons] at hs
  split at hs
  ·rename_i e2; subst e2; cases hs; simp
  ·obtain ⟨h3, h4⟩ := h2 s v hs
   refine ⟨by omega, ?_⟩
   rw [show s - n = (s - (n + 1)) + 1 by omega]; exact h4

def base (w : World) : Nat -> Prop := fun k => k < w.heap.size

theorem sWn (w : World) : SatW w (base w) noJ [] w := ⟨Same.refl _ _, fun _ h => h, List.nodup_nil, fun p hp => (by cases hp), closed_noJ, trivial⟩

theorem fEn {f : FuncId} {fn : Func} {body : Code} {args : List Value} {w : World} {D : Nat -> Prop} {J : (Nat -> Prop) -> World -> Prop} {R : Ending -> World -> Prop} (hf : P.funcs[f]? = some fn) (hb : fn.body = some body) (hN : fn.ntmps = N)
  (hl : Nat.ble args.length N = true) (he : enumK 0 args some = some env) (hm : SatW w D J mem w)
  (k : RunC P N ⟨Fence.wide, 0, [], w, D, J⟩ body (bodyPostK P fn R) env mem) : Calls P f ⟨args⟩ w R := by
 subst hN
 refine calls_of_wpK hf hb (wpIn_wide (n := 0).1 (k.run _ _ ?_ hm))
 obtain ⟨e, h1, h2⟩ := enumK_eq he
 simp only [Option.some.injEq] at h1
 subst h1
 have hl2 := Nat.le_of_ble_eq_true hl
 refine ⟨?_, rfl, fun s v hs => ?_⟩
 ·simp only [Array.size_append, Array.size_replicate, List.size_toArray]; omega
 ·obtain ⟨_, h3⟩ := h2 s v hs
  simp only [Nat.sub_zero] at h3
  have hlt := (List.getElem?_eq_some_iff.1 h3).1
  rw [Array.getElem?_append_left (by simpa using hlt)]
  simpa using h3

/-- The values of a function's results. -/
inductive Res (tt : List (TypeId × TI)) (env : List (Nat × Value)) (mem : List (Nat × Obj)) : List ResultVar -> List Value -> Prop
 | nil : Res tt env mem [] []
 | tmp {t : Nat} {v : Value} {rs : List ResultVar} {vs : List Value} (h : look env t = some v) (k : Res tt env mem rs vs) : Res tt env mem (.tmp t :: rs) (v :: vs)
 | cell {s t b o sz bt : Nat} {cs : List Value} {T' : TypeId} {fr : Nat × Nat} {kd : TK} {z v : Value} {rs : List ResultVar} {vs : List Value} (h : look env s = some (.pointer (some ⟨b, o, none⟩)))
   (hm : (b, Obj.cells ⟨cs⟩ T' fr) ∈ mem) (ht : look tt t = some ⟨kd, sz, bt, z⟩) (hv : aggV kd.isAgg sz cs o = some v) (k : Res tt env mem rs vs) : Res tt env mem (.cell s t :: rs) (v :: vs)

def resF (tmps : Array Value) : ResultVar -> Sem Value
 | .tmp t => pure (tmps.getD t undef)
 | .cell a t => do loadVar t (<- asAddr (tmps.getD a undef))

theorem Res.run [T : TT P tt] {rs : List ResultVar} {vs : List Value} (h : Res tt env mem rs vs) {a : Act} {W : World} {ds : List Deferred} (ha : SatA N ds env a) {w0 : World} {D : Nat -> Prop} {J : (Nat -> Prop) -> World -> Prop} (hm : SatW w0 D J mem W) :
  (rs.mapM (resF a.tmps)).run P W = .ok vs W := by
 induction h with
 | nil => rfl
 | tmp h _ ih =>
  rw [List.mapM_cons]
  simp only [resF, Sem.run_bind]
  have := ha.env _ _ h
  show (Result.ok (a.tmps.getD _ undef) W).andThen _ = _
  simp only [Result.andThen_ok]
  rw [ih]
  simp only [Result.andThen_ok, Array.getD_eq_getD_getElem?, this]; rfl
 | cell h hmm ht hv _ ih =>
  rw [List.mapM_cons]
  simp only [resF, Sem.run_bind]
  have := ha.env _ _ h
  have hl := load_of (P := P) (o := 0) (W := W) (TT.look ht) (fun i v hi => by rw [hm.cellAt hmm, Nat.zero_add]; exact hi) hv
  rw [Nat.zero_add] at hl
  simp only [Array.getD_eq_getD_getElem?, this, Option.getD_some, asAddr]
  show ((((loadVar _ _).run P W).andThen _)) = _
  rw [hl]
  simp only [Result.andThen_ok]
  rw [ih]; rfl

def tupV : List Value -> Value
 | [v] => v
 | vs => .tuple ⟨vs⟩
def tupO : List Value -> Option Value
 | [v] => some v
 | vs => some (.tuple ⟨vs⟩)
theorem tupO_eq {vs : List Value} {v : Value} (h : tupO vs = some v) : tupV vs = v := by
 cases vs with
 | nil => exact Option.some.inj h
 | cons x vs => cases vs <;> exact Option.some.inj h

theorem results_run [T : TT P tt] {fn : Func} {rs : List ResultVar} {vs : List Value} (hr : fn.results = ⟨rs⟩) (h : Res tt env mem rs vs) {a : Act} {W : World} {ds : List Deferred} (ha : SatA N ds env a)
  {w0 : World} {D : Nat -> Prop} {J : (Nat -> Prop) -> World -> Prop} (hm : SatW w0 D J mem W) : (results fn a.tmps).run P W = .ok (tupV vs) W := by
 have h1 := h.run (P := P) ha hm
 have h2 : results fn a.tmps = (do let vs <- (⟨rs⟩ : Array ResultVar).mapM (resF a.tmps); pure (if h : vs.size = 1 then vs[0] else .tuple vs)) := by
  unfold results; rw [hr]; rfl
 rw [h2, Array.mapM_eq_mapM_toList]
 simp only [Sem.run_bind, Sem.run_map, h1, Result.andThen_ok]
 cases vs with
 | nil => rfl
 | cons v vs => cases vs <;> rfl

theorem x_ret [T : TT P tt] {fn : Func} {rs : List ResultVar} {vs : List Value} {v : Value} {R : Ending -> World -> Prop} (hds : c.ds = []) (hr : fn.results = ⟨rs⟩) (h : Res tt env mem rs vs) (hv : tupO vs = some v)
  (hR : ∀ W, SatW c.w0 c.D c.J mem W -> R (.returned v) W) : RunX N c (bodyPostK P fn R) .ret env mem := .mk fun a W ha hm => by
 obtain rfl := tupO_eq hv
 exact bodyPostK_ret0 (ha.defers.trans hds) (results_run hr h ha hm) (hR W hm)

theorem x_end [T : TT P tt] {fn : Func} {rs : List ResultVar} {vs : List Value} {v : Value} {R : Ending -> World -> Prop} (hds : c.ds = []) (hr : fn.results = ⟨rs⟩) (h : Res tt env mem rs vs) (hv : tupO vs = some v)
  (hR : ∀ W, SatW c.w0 c.D c.J mem W -> R (.returned v) W) : RunX N c (bodyPostK P fn R) .normal env mem := .mk fun a W ha hm => by
 obtain rfl := tupO_eq hv
 exact bodyPostK_end0 (ha.defers.trans hds) (results_run hr h ha hm) (hR W hm)

theorem SatW.below {w : World} {W : World} {J : (Nat -> Prop) -> World -> Prop} (h : SatW w (base w) J mem W) : Under w.heap.size w W := h.same.below (Nat.le_refl _) fun _ hk => hk

/-! ## Regions that draw their order, and only read -/
structure RunQ (P : Program) (N : Nat) (c : Cx) (L l : List Oper) (Q : Exit -> Act -> World -> Prop) (env : List (Nat × Value)) (mem : List (Nat × Obj)) : Prop where
 run : ∀ a, SatA N c.ds env a -> wpQuiet P L.toArray (SatW c.w0 c.D c.J mem) (fun a' => ∀ W, SatW c.w0 c.D c.J mem W -> Q .normal a' W) l a

theorem q_nil (k : RunX N c Q .normal env mem) : RunQ P N c L [] Q env mem := .mk fun a ha => wpQuiet_nil fun W hm => k.run a W ha hm

theorem q_run {o : Oper} {v : Value} (hw : wantB L env o.guard = some true) (h : ∀ a, SatA N c.ds env a -> ∀ W, SatW c.w0 c.D c.J mem W -> o.quietAt P a (SatW c.w0 c.D c.J mem) W v)
  (k : ∀ a, SatA N c.ds env a -> wpQuiet P L.toArray (SatW c.w0 c.D c.J mem) (fun a' => ∀ W, SatW c.w0 c.D c.J mem W -> Q .normal a' W) l (a.put o.dst v)) : RunQ P N c L (o :: l) Q env mem := .mk fun a ha => by
 show if _ then _ else _
 rw [if_pos (wanted_of hw ha)]
 exact ⟨v, h a ha, k a ha⟩

theorem q_val {op : Op} {v : Value} (hw : wantB L env g = some true) (hd : Nat.blt d N = true)
  (hv : OpVal P N c env mem ⟨some d, op, ty, pos, af, g⟩ v) (k : RunQ P N c L l Q ((d, v) :: env) mem) : RunQ P N c L (⟨some d, op, ty, pos, af, g⟩ :: l) Q env mem :=
 q_run (v := v) hw (fun a ha W hm => by
  unfold Oper.quietAt
  rw [hv.2 a W ha hm]
  exact ⟨rfl, rfl⟩) (fun a ha => k.run _ (ha.put hd v))

theorem q_skip {op : Op} (hw : wantB L env g = some false) (hd : Nat.blt d N = true) (k : RunQ P N c L l Q ((d, undef) :: env) mem) : RunQ P N c L (⟨some d, op, ty, pos, af, g⟩ :: l) Q env mem := .mk fun a ha => by
 show if _ then _ else _
 rw [if_neg (by rw [wanted_of (o := ⟨some d, op, ty, pos, af, g⟩) hw ha]; exact Bool.false_ne_true)]
 exact k.run _ (ha.put hd undef)

theorem q_guard {o : Oper} {j d : Nat} {w b : Bool} {o' : Oper} (_hg : o.guard = some (j, w)) (_hj : nth L j = some o') (_hd : o'.dst = some d) (hb : look env d = some (.bool b))
  (k1 : b = true -> RunQ P N c L (o :: l) Q ((d, .bool true) :: env) mem) (k2 : b = false -> RunQ P N c L (o :: l) Q ((d, .bool false) :: env) mem) : RunQ P N c L (o :: l) Q env mem := .mk fun a ha => by
 have same : ∀ b', b = b' -> SatA N c.ds ((d, .bool b') :: env) a := fun b' e => by
  refine ⟨ha.size, ha.defers, fun s v hs => ?_⟩
  rw [look_cons] at hs
  split at hs
  ·rename_i e2; subst e2; cases hs; subst e; exact ha.env _ _ hb
  ·exact ha.env _ _ hs
 cases hbb : b with
 | true => exact (k1 hbb).run a (same _ hbb)
 | false => exact (k2 hbb).run a (same _ hbb)

theorem q_call {f : FuncId} [Ent P f] {args : List Operand} {ats : Array TypeId} {vs : List Value} {v : Value} (hw : wantB L env g = some true) (hd : Nat.blt d N = true) (ha : evOps env args some = some vs)
  (hc : ∀ W, SatW c.w0 c.D c.J mem W -> Calls P f ⟨vs⟩ W fun e W' => e = .returned v /\ Under W.heap.size W W')
  (k : RunQ P N c L l Q ((d, v) :: env) mem) : RunQ P N c L (⟨some d, .call ⟨.value (.func f), ⟨args⟩, ats⟩, ty, pos, af, g⟩ :: l) Q env mem :=
 q_run (v := v) hw (fun a hA W hm => by
  have h1 := hA.evals ha
  simp only [Option.some.injEq] at h1
  unfold Oper.quietAt
  rw [p_call, h1]
  exact ⟨rfl, (hc W hm).mono fun _ W' ⟨h2, h3⟩ => ⟨h2, hm.later h3⟩⟩) (fun a hA => k.run _ (hA.put hd v))

theorem wpIn_of_quiet {F : Fence} [Wide F] {n : Nat} {C : World -> Prop} {o : Oper} {a : Act} {K : Act -> Prop} {K' : Act -> World -> Prop} {w : World} (hw : C w) (h : ∀ a w', C w' -> K a -> K' a w') (hh : o.quiet P a C K) :
  o.wpIn F n P a w K' Q := by
 obtain ⟨v, h1, h2⟩ := hh
 refine ⟨fun f _ => Wide.fn F f, ?_⟩
 have h3 := h1 w hw
 unfold Oper.quietAt at h3
 have hd : ∀ cl, o.op ≠ .defer cl := fun cl e => by
  unfold execOp at h3
  rw [e] at h3
  simp only [Sem.run_bind] at h3
  cases hr : (resolve a.eval cl o.type).run P w with
  | ok d w' => rw [hr] at h3; exact h3
  | halt x w' => rw [hr] at h3; exact h3
 rw [Oper.semAt_eq _ _ _ hd]
 generalize (execOp a.eval o).run P w = r at *
 cases r with
 | ok nx w' =>
  cases nx <;> simp only [Oper.quietUpon] at h3
  case value u => obtain ⟨e1, e2⟩ := h3; subst e1; subst e2; exact h _ _ hw h2
  case skip => obtain ⟨e1, e2⟩ := h3; subst e1; subst e2; exact h _ _ hw h2
  case enter f args =>
   obtain ⟨e1, hc⟩ := h3
   subst e1
   refine ⟨Wide.depth F n, (Wide.calls (F := F) hc).mono ?_⟩
   rintro e w'' ⟨rfl, hw''⟩
   exact h _ _ hw'' h2
 | halt x w' => exact h3.elim

theorem wpOpIn_of_qOp {F : Fence} [Wide F] {n : Nat} {ops : Array Oper} {C : World -> Prop} {i : Nat} {a : Act} {K : Act -> Prop} {K' : Act -> World -> Prop} {w : World} (hC : C w) (h : ∀ a w', C w' -> K a -> K' a w') (hh : qOp P ops C i K a) :
  wpOpIn F n P ops Q i K' a w := by
 unfold qOp at hh
 unfold wpOpIn
 split
 ·rename_i ho; simp only [ho] at hh; exact h _ _ hC hh
 ·rename_i o ho
  simp only [ho] at hh
  split
  ·rename_i hw; simp only [hw, if_true] at hh; exact wpIn_of_quiet hC h hh
  ·rename_i hw; simp only [hw] at hh; exact ⟨fun f _ => Wide.fn F f, h _ _ hC hh⟩

theorem wpAnyIn_of_quiet {F : Fence} [Wide F] {n : Nat} {md : Region.Mode} {ops : Array Oper} {C : World -> Prop} {K : Act -> Prop} (hQ : ∀ a w, C w -> K a -> Q .normal a w) : ∀ (fuel : Nat) (listed : Array Bool) (a : Act) (w : World), C w ->
  wpAnyQ P md ops C K fuel listed a -> wpAnyIn F n P md ops Q fuel listed a w
 | 0, _, _, _, hw, h => ⟨h.1, hQ _ _ hw h.2⟩
 | fuel + 1, _, _, _, hw, h => ⟨fun h0 => hQ _ _ hw (h.1 h0), fun i hi => wpOpIn_of_qOp hw (fun a' w' hw' => wpAnyIn_of_quiet hQ fuel _ a' w' hw') (h.2 i hi)⟩

/-- A program under 'wide'. -/
class Mixed (P : Program) : Prop where
 ok : P.follows .mixedOrders = true

theorem c_quiet [M : Mixed P] {id : Nat} (hB : Region.lexB .any l.toArray = true) (k : RunQ P N c l l Q env mem) : RunC P N c (.region id l.toArray true) Q env mem := .mk fun a W ha hm => by
 simp only [Region.lexB, Bool.and_eq_true] at hB
 refine wpIn_region_any M.ok (wpAnyIn_of_quiet (C := SatW c.w0 c.D c.J mem) (K := fun a' => ∀ W, SatW c.w0 c.D c.J mem W -> Q .normal a' W) (fun a w hw h => h w hw) _ _ _ _ hm.drew ?_)
 have := wpAnyQ_lex (P := P) (C := SatW c.w0 c.D c.J mem) (Q := fun a' => ∀ W, SatW c.w0 c.D c.J mem W -> Q .normal a' W) (md := .any) hB.1 l 0 (Array.replicate l.toArray.size false) a (by simp) (by simpa using hB.2) (k.run a ha)
 simpa using this


/-! ## Tables -/
def vec {α : Type} (n : Nat) (f : Nat -> α) : List α := (List.range n).map f
/-- rows of several cells -/
def flat {α : Type} (n : Nat) (f : Nat -> List α) : List α := (List.range n).flatMap f

theorem ti_mk {t : TypeId} {k : TK} {sz bt : Nat} {z : Value} (h1 : TKOk P t k) (h2 : (P.info? t).map (fun i => (i.zero, i.size, i.bytes)) = some (some z, sz, bt)) : TIOk P t ⟨k, sz, bt, z⟩ := by
 refine ⟨h1, ?_⟩
 cases hi : P.info? t with
 | none => rw [hi] at h2; cases h2
 | some i =>
  rw [hi] at h2
  simp only [Option.map_some, Option.some.injEq, Prod.mk.injEq] at h2
  exact ⟨i, rfl, h2.2.1, h2.2.2, h2.1⟩
theorem tk_struct {t : TypeId} {fs : List (TypeId × Nat)} (h : (P.underlying t).map (fun d => match d with | .struct fs => some (fs.toList.map fun f => (f.type, f.offset)) | _ => none) = some (some fs)) : TKOk P t (.struct fs) := by
 cases hi : P.underlying t with
 | none => rw [hi] at h; cases h
 | some dsc =>
  rw [hi] at h
  simp only [Option.map_some, Option.some.injEq] at h
  cases dsc with
  | struct f => simp only [Option.some.injEq] at h; exact ⟨f, hi, h⟩
  | _ => cases h
theorem tk_other {t : TypeId} (h : (P.underlying t).map (fun d => match d with | .struct _ => false | .array .. => false | _ => true) = some true) : TKOk P t .other := by
 cases hi : P.underlying t with
 | none => rw [hi] at h; cases h
 | some dsc =>
  rw [hi] at h
  simp only [Option.map_some, Option.some.injEq] at h
  cases dsc <;> first|(cases h; done)|exact ⟨_, hi, trivial⟩
theorem ent_of {f : FuncId} {fn : Func} (hf : P.funcs[f]? = some fn) (hb : fn.body.isNone = false) (hn : (fn.name == "runtime.NumGoroutine") = false) (args : Array Value) (w : World) :
  (callFunc f args).run P w = .ok (.enter f args) w := by
 have hn' : ¬ fn.name = "runtime.NumGoroutine" := by simpa using hn
 have hb' : ¬ fn.body = none := by intro e; rw [e] at hb; cases hb
 simp [callFunc, program, Sem.run, pure, bind, Sem.bind, hf, hb', hn']
theorem tt_nil : ∀ p ∈ ([] : List (TypeId × TI)), TIOk P p.1 p.2 := fun p hp => by cases hp
theorem tt_cons {t : TypeId} {ti : TI} {tl : List (TypeId × TI)} (h : TIOk P t ti) (k : ∀ p ∈ tl, TIOk P p.1 p.2) : ∀ p ∈ (t, ti) :: tl, TIOk P p.1 p.2 := fun p hp => by
 rcases List.mem_cons.1 hp with rfl | hp
 ·exact h
 ·exact k p hp


/-! ## Tests that are decided -/
theorem l_dec_t {o : Oper} {j d : Nat} {w : Bool} {o' : Oper} {p : Prop} [Decidable p] (hg : o.guard = some (j, w)) (hj : nth L j = some o') (hd : o'.dst = some d) (hb : look env d = some (.bool (decide p))) (hN : Nat.blt d N = true)
  (hp : p) (k : RunL P N c L (o :: l) Q ((d, .bool true) :: env) mem) : RunL P N c L (o :: l) Q env mem :=
 l_guard hg hj hd hb hN (fun _ => k) (fun e => absurd hp (of_decide_eq_false e))
theorem l_dec_f {o : Oper} {j d : Nat} {w : Bool} {o' : Oper} {p : Prop} [Decidable p] (hg : o.guard = some (j, w)) (hj : nth L j = some o') (hd : o'.dst = some d) (hb : look env d = some (.bool (decide p))) (hN : Nat.blt d N = true)
  (hp : ¬ p) (k : RunL P N c L (o :: l) Q ((d, .bool false) :: env) mem) : RunL P N c L (o :: l) Q env mem :=
 l_guard hg hj hd hb hN (fun e => absurd (of_decide_eq_true e) hp) (fun _ => k)
theorem l_dec {o : Oper} {j d : Nat} {w : Bool} {o' : Oper} {p : Prop} [Decidable p] (hg : o.guard = some (j, w)) (hj : nth L j = some o') (hd : o'.dst = some d) (hb : look env d = some (.bool (decide p))) (hN : Nat.blt d N = true)
  (k1 : p -> RunL P N c L (o :: l) Q ((d, .bool true) :: env) mem) (k2 : ¬ p -> RunL P N c L (o :: l) Q ((d, .bool false) :: env) mem) : RunL P N c L (o :: l) Q env mem :=
 l_guard hg hj hd hb hN (fun e => k1 (of_decide_eq_true e)) (fun e => k2 (of_decide_eq_false e))
theorem q_dec_t {o : Oper} {j d : Nat} {w : Bool} {o' : Oper} {p : Prop} [Decidable p] (hg : o.guard = some (j, w)) (hj : nth L j = some o') (hd : o'.dst = some d) (hb : look env d = some (.bool (decide p)))
  (hp : p) (k : RunQ P N c L (o :: l) Q ((d, .bool true) :: env) mem) : RunQ P N c L (o :: l) Q env mem :=
 q_guard hg hj hd hb (fun _ => k) (fun e => absurd hp (of_decide_eq_false e))
theorem q_dec_f {o : Oper} {j d : Nat} {w : Bool} {o' : Oper} {p : Prop} [Decidable p] (hg : o.guard = some (j, w)) (hj : nth L j = some o') (hd : o'.dst = some d) (hb : look env d = some (.bool (decide p)))
  (hp : ¬ p) (k : RunQ P N c L (o :: l) Q ((d, .bool false) :: env) mem) : RunQ P N c L (o :: l) Q env mem :=
 q_guard hg hj hd hb (fun e => absurd (of_decide_eq_true e) hp) (fun _ => k)
/-! ## Memory that came in -/
/-- A slice that came in: its rows, `sz` cells each. -/
def At (w : World) (A : Option Addr) (sz : Nat) (rows : List (List Value)) : Prop :=
 ∀ i cs, rows[i]? = some cs -> ∃ b o, A = some ⟨b, o, none⟩ /\ ∀ j v, cs[j]? = some v -> w.cell? ⟨b, o + i * sz + j, none⟩ = some v
theorem At.later {w w' : World} {A : Option Addr} {sz : Nat} {rows : List (List Value)} (h : At w A sz rows) (k : Later w w') : At w' A sz rows := fun i cs hi => by
 obtain ⟨b, o, hA, hc⟩ := h i cs hi
 exact ⟨b, o, hA, fun j v hj => k.cell (hc j v hj)⟩
theorem ext_of {w : World} {b o : Nat} {x : Value} {cs : List Value} (h : ∀ j v, (x :: cs)[j]? = some v -> w.cell? ⟨b, o + j, none⟩ = some v) : Ext w (base w) b o (x :: cs) :=
 ⟨lt_of_cell (h 0 x rfl), h⟩
theorem At.sat {w W : World} {mem : List (Nat × Obj)} {J : (Nat -> Prop) -> World -> Prop} {A : Option Addr} {sz : Nat} {rows : List (List Value)} (h : At w A sz rows) (hm : SatW w (base w) J mem W) : At W A sz rows := h.later hm.below

end
end Kin
end Go

/- The engine's rules for ranges over functions, outermost and within a round, for a call of yield, and for ends behind marks. Generic: no program is named here. -/
import Derived.Test.YtajnkdgbpffinaaGreatEng3
set_option linter.unusedSectionVars false
set_option linter.unusedVariables false
set_option linter.unusedSimpArgs false
namespace Go
open Go.RowKit
namespace Kin

/-- All that lies, but for the blocks of the list. -/
def outside (mem : List (Nat × Obj)) (W : World) : Nat -> Prop := fun k => k < W.heap.size /\ k ∉ mem.map (·.1)

section
variable {w0 : World} {D : Nat -> Prop} {J : (Nat -> Prop) -> World -> Prop} {mem mem' : List (Nat × Obj)} {W W' : World}
theorem SatW.self (h : SatW w0 D J mem W) : SatW W (outside mem W) noJ mem W :=
 ⟨Same.refl _ _, fun _ h => h.1, h.nodup, fun p hp => ⟨fun ho => ho.2 (List.mem_map.2 ⟨p, hp, rfl⟩), (h.own p hp).2⟩, closed_noJ, trivial⟩

/-- other blocks have been written -/
theorem SatW.apart (h : SatW w0 D noJ mem W) {S : Nat -> Prop} (hS : ∀ b, S b -> b ∉ mem.map (·.1) /\ ¬ D b) (hs : Same (fun b => ¬ S b) W W') : SatW w0 D noJ mem W' :=
 ⟨h.same.trans (hs.mono fun _ hk e => (hS _ e).2 hk), h.dom, h.nodup,
  fun p hp => ⟨(h.own p hp).1, (hs.block _ (h.lt hp) (fun e => (hS _ e).1 (List.mem_map.2 ⟨p, hp, rfl⟩))).trans (h.own p hp).2⟩, closed_noJ, trivial⟩

theorem SatW.sparing {B : Nat} (h : SatW w0 D noJ mem W) (hB : B ∉ mem.map (·.1)) (hD : ¬ D B) (hs : Same (fun b => b ≠ B) W W') : SatW w0 D noJ mem W' :=
 h.apart (S := fun b => b = B) (fun b e => by subst e; exact ⟨hB, hD⟩) hs

/-- What lay in W and is not of the list `mem` is not of a list `mem'` that has come out of it. -/
theorem SatW.away (h : SatW W (outside mem W) J mem' W') {b : Nat} (hb : b < W.heap.size) (hn : b ∉ mem.map (·.1)) : b ∉ mem'.map (·.1) := fun hm => by
 obtain ⟨p, hp, e⟩ := List.mem_map.1 hm
 exact (h.own p hp).1 (e ▸ ⟨hb, hn⟩)

theorem SatW.notIn (hm : SatW w0 D J mem W) {b : Nat} (hb : D b) : b ∉ mem.map (·.1) := fun hi => by
 obtain ⟨p, hp, e⟩ := List.mem_map.1 hi
 exact (hm.own p hp).1 (e ▸ hb)
theorem SatW.within (hm : SatW w0 D J mem W) {b : Nat} (hb : D b) : outside mem W b :=
 ⟨Nat.lt_of_lt_of_le (hm.dom _ hb) hm.same.size, hm.notIn hb⟩

/-- Back to the frame of before. -/
theorem SatW.back {J' : (Nat -> Prop) -> World -> Prop} (h : SatW w0 D J mem W) (k : SatW W (outside mem W) J' mem' W') : SatW w0 D J mem' W' := by
 refine ⟨h.same.trans (k.same.mono fun b hb => h.within hb), h.dom, k.nodup, fun p hp => ⟨fun hd => (k.own p hp).1 (h.within hd), (k.own p hp).2⟩, h.closed, ?_⟩
 refine h.closed _ _ _ _ h.word (k.same.monoLt fun b hb hn => ⟨hb, hn⟩) fun b hb => ?_
 obtain ⟨p, hp, e⟩ := List.mem_map.1 hb
 have := (k.own p hp).1
 by_cases h2 : b < W.heap.size
 ·left
  by_cases h3 : b ∈ mem.map (·.1)
  ·exact h3
  ·exact absurd ⟨by rw [e]; exact h2, by rw [e]; exact h3⟩ this
 ·exact .inr (Nat.le_of_not_lt h2)

end

/-- **An iterator's contract**: called at the yield of whatever loop `l`: it hands the rounds the elements of `xs`, one by one, and returns; or a round says 'no more', and it returns. `S`: the blocks that the iterator has laid and may write: the rounds keep them, and those of `R`. -/
def It {α : Type} (P : Program) (gf : Nat) (lb : List Value) (encs : α -> List Value) (xs : List α) (R : Nat -> Prop) (W : World) : Prop :=
 ∀ (l : Nat) (J Jx : Nat -> (Nat -> Prop) -> World -> Prop), (∀ k, Closed (J k)) -> (∀ k, Closed (Jx k)) ->
  (∀ k (hk : k < xs.length) (S : Nat -> Prop) (A : World), J k S A -> (∀ b, S b -> b < A.heap.size) -> YieldAt Fence.wide 0 P l ⟨encs xs[k]⟩ A fun e B =>
   (e = .returned (.bool true) /\ J (k + 1) S B /\ Same (fun b => S b ∨ R b) A B) ∨ (e = .returned (.bool false) /\ Jx k S B)) ->
  J 0 (fun _ => False) W ->
  Calls P gf ⟨.func (.yield l) #[] #[] :: lb⟩ W fun e W' => (∃ v, e = .returned v) /\ ((∃ S, J xs.length S W') ∨ ∃ k, k < xs.length /\ ∃ S, Jx k S W')

/-- The round's end: what must hold, by the way that it is left. -/
structure RQ {ι : Type} (kof : ι -> Nat) (I : ι -> Prop) (M : ι -> List (Nat × Obj)) (St : Code -> ι -> Prop) (k : Nat) (W2 : World) (mem1 : List (Nat × Obj)) (e : Exit) (a : Act) (W3 : World) : Prop where
 ok : match e with
  | .normal => ∃ i, kof i = k + 1 /\ I i /\ SatW W2 (outside mem1 W2) noJ (M i) W3
  | .ret => ∃ i, St .ret i /\ SatW W2 (outside mem1 W2) noJ (M i) W3
  | .exit id => ∃ i, St (.exit id) i /\ SatW W2 (outside mem1 W2) noJ (M i) W3
  | .goto t => ∃ i, St (.goto t) i /\ SatW W2 (outside mem1 W2) noJ (M i) W3
  | .panic _ => False
  | .outgrown => False

/-- The end of the assignments of a round: a state from which the round's body can be walked. -/
structure AX (P : Program) (N : Nat) (body : Code) {ι : Type} (kof : ι -> Nat) (I : ι -> Prop) (M : ι -> List (Nat × Obj)) (St : Code -> ι -> Prop) (l k : Nat) (m : List (Nat × Obj)) (W : World) (a' : Act) (W' : World) : Prop where
 ex : ∃ env1 mem1, SatA N [] env1 a' /\ SatW W (outside m W) noJ mem1 W' /\
  ∀ (n : Nat) (W2 : World) (r : Loop), SatW W2 (outside mem1 W2) noJ mem1 W2 -> Same (fun b => b ≠ l) W' W2 -> W2.heap[l]? = some (.loop r) -> outside mem1 W2 l ->
   RunC P N ⟨Fence.wide.inRound l, n, [], W2, outside mem1 W2, noJ⟩ body (RQ kof I M St k W2 mem1) env1 mem1

/-- The parameters' values, laid ahead of what is known. -/
def zipE : List Tmp -> List Value -> List (Nat × Value) -> List (Nat × Value)
 | p :: ps, v :: vs, e => zipE ps vs ((p, v) :: e)
 | _, _, e => e

section
variable {P : Program} {N : Nat} {c : Cx} {Q : Exit -> Act -> World -> Prop} {env : List (Nat × Value)} {mem : List (Nat × Obj)}

theorem zipE_sat {ps : List Tmp} {vs : List Value} {a : Act} {ds : List Deferred} (ha : SatA N ds env a) (hp : ∀ p ∈ ps, p < N) :
  SatA N [] (zipE ps vs env) { tmps := (ps.zip vs).foldl (fun t (p, v) => t.setIfInBounds p v) a.tmps, defers := [] } := by
 induction ps generalizing vs env a ds with
 | nil => exact ⟨ha.size, rfl, ha.env⟩
 | cons p ps ih =>
  cases vs with
  | nil => exact ⟨ha.size, rfl, ha.env⟩
  | cons v vs =>
   have h1 : SatA N ds ((p, v) :: env) { tmps := a.tmps.setIfInBounds p v, defers := a.defers } := by
    have := ha.put (d := p) (v := v) (Nat.ble_eq_true_of_le (hp p List.mem_cons_self))
    exact this
   exact ih h1 fun q hq => hp q (List.mem_cons_of_mem _ hq)

section
variable {ι : Type} {kof : ι -> Nat} {I : ι -> Prop} {M : ι -> List (Nat × Obj)} {St : Code -> ι -> Prop}

/-- from the assignments' end into the body -/
theorem x_body {body : Code} {l k n' : Nat} {m : List (Nat × Obj)} {W w0 : World} {D : Nat -> Prop} {F : Fence}
  (hI : SatW w0 D noJ m W) (hDl : ¬ D l) (hl : outside m W l)
  (h : ∀ (n : Nat) (W2 : World) (r : Loop), SatW w0 D noJ mem W2 -> W2.heap[l]? = some (.loop r) -> outside mem W2 l ->
   RunC P N ⟨Fence.wide.inRound l, n, [], W2, outside mem W2, noJ⟩ body (RQ kof I M St k W2 mem) env mem) :
  RunX N ⟨F, n', [], W, outside m W, noJ⟩ (Exit.then (AX P N body kof I M St l k m W) (fun _ _ _ => False)) .normal env mem := .mk fun _ W' ha hm =>
 ⟨env, mem, ha, hm, fun n W2 r _ hs hr ho => h n W2 r ((hI.back hm).sparing (hm.away hl.1 hl.2) hDl hs) hr ho⟩

theorem x_next {k n : Nat} {W2 : World} {mem1 : List (Nat × Obj)} {F : Fence} (i : ι) (hk : kof i = k + 1) (hI : I i) (hM : MSub mem (M i)) :
  RunX N ⟨F, n, [], W2, outside mem1 W2, noJ⟩ (RQ kof I M St k W2 mem1) .normal env mem := .mk fun _ _ _ hm => ⟨i, hk, hI, hm.mono hM.sub⟩
end

theorem SatW.more {w0 W : World} {D : Nat -> Prop} {m ex : List (Nat × Obj)} (h : SatW w0 D noJ m W) (hn : (ex.map (·.1)).Nodup) (he : ∀ p ∈ ex, ¬ D p.1 /\ W.heap[p.1]? = some p.2 /\ p.1 ∉ m.map (·.1)) : SatW w0 D noJ (ex ++ m) W := by
 refine ⟨h.same, h.dom, ?_, fun p hp => ?_, closed_noJ, trivial⟩
 ·rw [List.map_append, List.nodup_append]
  refine ⟨hn, h.nodup, fun a ha b hb e => ?_⟩
  subst e
  obtain ⟨p, hp, e⟩ := List.mem_map.1 ha
  exact (he p hp).2.2 (e ▸ hb)
 ·rcases List.mem_append.1 hp with hp | hp
  ·exact ⟨(he p hp).1, (he p hp).2.1⟩
  ·exact h.own p hp

/-- What an engine's walk of a range shows of one round, said of the law's own words. -/
theorem round_ok {α : Type} {ps : List Tmp} {assign body : Code} {ι : Type} {kof : ι -> Nat} {I : ι -> Prop} {M : ι -> List (Nat × Obj)} {St : Code -> ι -> Prop} {encs : α -> List Value} {x : α} {w0 : World} {D : Nat -> Prop} {env' : List (Nat × Value)}
  {i : ι} {n l : Nat} {a : Act} {W : World} {rec : LoopState -> Option Code -> Loop} {extra : List (Nat × Obj)} {S R : Nat -> Prop}
  (hrec : ∀ st pe, (rec st pe).state = st) (hrs : ∀ st pe st' pe', ({ rec st pe with state := st', pending := pe' } : Loop) = rec st' pe')
  (hsat : SatW w0 D noJ (((l, .loop (rec .ready none)) :: extra) ++ M i) W) (hE : SatA N [] (zipE ps (encs x) env') a) (hS : ∀ b, S b -> b < W.heap.size /\ b ≠ l /\ b ∉ (M i).map (·.1))
  (hR : ∀ b, R b -> b < W.heap.size /\ b ≠ l /\ b ∉ (M i).map (·.1))
  (round : ∀ (n l : Nat) (W : World), SatW w0 D noJ (M i) W -> ¬ D l -> outside (M i) W l ->
   RunC P N ⟨Fence.wide.inRound l, n, [], W, outside (M i) W, noJ⟩ assign (Exit.then (AX P N body kof I M St l (kof i) (M i) W) (fun _ _ _ => False)) (zipE ps (encs x) env') (M i)) :
  assign.wpIn (Fence.wide.inRound l) n P (Exit.then (fun a₁ w₁ => ∃ w₂, (Instr.beginRound l).run P w₁ = .ok () w₂ /\ body.wpIn (Fence.wide.inRound l) n P
   (roundPost P l fun e B => (e = .returned (.bool true) /\ (∃ j, kof j = kof i + 1 /\ I j /\ SatW w0 D noJ (((l, .loop (rec .ready none)) :: extra) ++ M j) B /\ ∀ b, S b -> b ∉ (M j).map (·.1)) /\ Same (fun b => S b ∨ R b) W B) ∨
    (e = .returned (.bool false) /\ ∃ j cd, St cd j /\ SatW w0 D noJ (((l, .loop (rec .done (some cd))) :: extra) ++ M j) B /\ ∀ b, S b -> b ∉ (M j).map (·.1))) a₁ w₂) (fun _ _ _ => False)) a W := by
 have hM : SatW w0 D noJ (M i) W := hsat.mono (List.sublist_append_right _ _)
 have hnd := hsat.nodup
 rw [List.map_append, List.nodup_append] at hnd
 obtain ⟨hn1, _, hn3⟩ := hnd
 have hex : ∀ p ∈ ((l, Obj.loop (rec .ready none)) :: extra), ¬ D p.1 /\ W.heap[p.1]? = some p.2 /\ p.1 ∉ (M i).map (·.1) := fun p hp =>
  ⟨(hsat.own p (List.mem_append_left _ hp)).1, (hsat.own p (List.mem_append_left _ hp)).2, fun h => hn3 _ (List.mem_map.2 ⟨p, hp, rfl⟩) _ h rfl⟩
 obtain ⟨d1, d2, d3⟩ := hex _ List.mem_cons_self
 simp only at d1 d2 d3
 have o2 : outside (M i) W l := ⟨lt_of_heap d2, d3⟩
 refine wpIn_mono ((round n l W hM d1 o2).run a W hE hM.self) ?_
 rintro e0 a' W' hq
 cases e0 with
 | normal =>
  obtain ⟨env1, mem1, hA, hm1, hrun⟩ := hq
  have hl' := hm1.same.obj d2 o2
  refine ⟨_, run_beginRound hl' (hrec _ _), ?_⟩
  obtain ⟨W'', hW''⟩ : ∃ W'', W'.putObj l (.loop { rec .ready none with state := .busy }) = W'' := ⟨_, rfl⟩
  rw [hW'']
  have hl2 : W''.heap[l]? = some (.loop { rec .ready none with state := .busy }) := by rw [<- hW'']; exact World.putObj_heap_same (lt_of_heap hl')
  have hs2 : Same (fun b => b ≠ l) W' W'' := by rw [<- hW'']; exact Same.putObj _ _ _ (fun h => h rfl)
  have a2 := hm1.away o2.1 o2.2
  have hW2 : SatW w0 D noJ mem1 W'' := (hM.back hm1).sparing a2 d1 hs2
  have hsz : W.heap.size <= W''.heap.size := Nat.le_trans hm1.same.size hs2.size
  have p2 : outside mem1 W'' l := ⟨by have := o2.1; omega, a2⟩
  have far : ∀ b, b < W.heap.size -> b ≠ l -> b ∉ (M i).map (·.1) -> outside mem1 W'' b := fun b h1 _ h3 => ⟨by omega, hm1.away h1 h3⟩
  refine wpIn_mono ((hrun n W'' _ hW2.self hs2 hl2 p2).run a' W'' hA hW2.self) ?_
  rintro e3 a3 W3 hq
  have leave : ∀ {m3 : List (Nat × Obj)} (jump : Option Code), SatW W'' (outside mem1 W'') noJ m3 W3 -> ∃ W4,
    (Instr.endRound l jump).run P W3 = .ok (.bool jump.isNone) W4 /\ SatW w0 D noJ (((l, .loop (rec (if jump.isNone then .ready else .done) jump)) :: extra) ++ m3) W4 /\
    (∀ b, S b -> b ∉ m3.map (·.1)) /\ Same (fun b => S b ∨ R b) W W4 := fun {m3} jump h3 => by
   have hl3 := h3.same.obj hl2 p2
   have hr := run_endRound (P := P) jump hl3
   rw [show ({ ({ rec .ready none with state := .busy } : Loop) with state := if jump.isNone then .ready else .done, pending := jump } : Loop) = rec (if jump.isNone then .ready else .done) jump from hrs .ready none _ _] at hr
   refine ⟨_, hr, ?_, fun b hb => h3.away (far b (hS b hb).1 (hS b hb).2.1 (hS b hb).2.2).1 (far b (hS b hb).1 (hS b hb).2.1 (hS b hb).2.2).2, ?_⟩
   ·have hl3n : l ∉ m3.map (·.1) := h3.away p2.1 p2.2
    have h4 : SatW w0 D noJ m3 (W3.putObj l (.loop (rec (if jump.isNone then .ready else .done) jump))) := (hW2.back h3).sparing hl3n d1 (Same.putObj _ _ _ (fun h => h rfl))
    refine h4.more hn1 fun p hp => ?_
    rcases List.mem_cons.1 hp with rfl | hp
    ·exact ⟨d1, World.putObj_heap_same (lt_of_heap hl3), hl3n⟩
    ·obtain ⟨q1, q2, q3⟩ := hex p (List.mem_cons_of_mem _ hp)
     have hne : p.1 ≠ l := fun e => by
      simp only [List.map_cons, List.nodup_cons] at hn1
      exact hn1.1 (List.mem_map.2 ⟨p, hp, e⟩)
     have f1 := far p.1 (lt_of_heap q2) hne q3
     have g1 := hm1.same.obj q2 ⟨lt_of_heap q2, q3⟩
     have g2 := hs2.obj g1 hne
     have g3 := h3.same.obj g2 f1
     exact ⟨q1, (World.putObj_heap_other hne).trans g3, h3.away f1.1 f1.2⟩
   ·have all : ∀ b, (S b ∨ R b) -> b < W.heap.size /\ b ≠ l /\ b ∉ (M i).map (·.1) := fun b hb => hb.elim (hS b) (hR b)
    exact (((hm1.same.mono fun b hb => ⟨(all b hb).1, (all b hb).2.2⟩).trans (hs2.mono fun b hb => (all b hb).2.1)).trans
     (h3.same.mono fun b hb => far b (all b hb).1 (all b hb).2.1 (all b hb).2.2)).trans (Same.putObj _ _ _ fun h => (all _ h).2.1 rfl)
  cases e3 with
  | normal =>
   obtain ⟨j, h1, h2, h3⟩ := hq.ok
   obtain ⟨W4, r1, r2, r3, r4⟩ := leave none h3
   exact ⟨_, W4, r1, .inl ⟨rfl, ⟨j, h1, h2, r2, r3⟩, r4⟩⟩
  | ret =>
   obtain ⟨j, h1, h3⟩ := hq.ok
   obtain ⟨W4, r1, r2, r3, r4⟩ := leave (some .ret) h3
   exact ⟨_, W4, r1, .inr ⟨rfl, j, .ret, h1, r2, r3⟩⟩
  | exit id =>
   obtain ⟨j, h1, h3⟩ := hq.ok
   obtain ⟨W4, r1, r2, r3, r4⟩ := leave (some (.exit id)) h3
   exact ⟨_, W4, r1, .inr ⟨rfl, j, .exit id, h1, r2, r3⟩⟩
  | goto t =>
   obtain ⟨j, h1, h3⟩ := hq.ok
   obtain ⟨W4, r1, r2, r3, r4⟩ := leave (some (.goto t)) h3
   exact ⟨_, W4, r1, .inr ⟨rfl, j, .goto t, h1, r2, r3⟩⟩
  | panic ch => exact hq.ok
  | outgrown => exact hq.ok
 | _ => exact hq


theorem closed_of {ι : Type} {w0 : World} {D : Nat -> Prop} {X : ι -> Prop} {O : ι -> List (Nat × Obj)} {M : ι -> List (Nat × Obj)} {B : Nat} (hw : ∀ b, B <= b -> ¬ D b) (hO : ∀ i, X i -> ∀ p ∈ O i, p.1 < B) :
  Closed fun S W => (∃ i, X i /\ SatW w0 D noJ (O i ++ M i) W /\ ∀ b, S b -> b ∉ (M i).map (·.1)) /\ (∀ b, S b -> B <= b) /\ B <= W.heap.size := by
 rintro S S' A A' ⟨⟨i, h1, h2, h3⟩, h4, h5⟩ hs hS
 refine ⟨⟨i, h1, h2.apart (S := S) (fun b hb => ⟨fun hm => ?_, hw b (h4 b hb)⟩) hs, fun b hb hm => ?_⟩, fun b hb => ?_, Nat.le_trans h5 hs.size⟩
 ·rw [List.map_append, List.mem_append] at hm
  rcases hm with hm | hm
  ·obtain ⟨p, hp, e⟩ := List.mem_map.1 hm
   have := hO i h1 p hp
   have := h4 b hb
   omega
  ·exact h3 b hb hm
 ·rcases hS b hb with h | h
  ·exact h3 b h hm
  ·obtain ⟨p, hp, e⟩ := List.mem_map.1 hm
   have := h2.lt (List.mem_append_right _ hp)
   omega
 ·rcases hS b hb with h | h
  ·exact h4 b h
  ·exact Nat.le_trans h5 h

theorem c_range {α : Type} {g : Operand} {ps : List Tmp} {assign body : Code} {gf : FuncId} [E : Ent P gf] {lb : List Value} {n0 : Nat} {ds : List Deferred} {w0 : World} {D : Nat -> Prop} {env' : List (Nat × Value)}
  (encs : α -> List Value) (xs : List α) (R : Nat -> Prop) (K : List (Nat × Obj)) {ι : Type} (kof : ι -> Nat) (I : ι -> Prop) (M : ι -> List (Nat × Obj)) (St : Code -> ι -> Prop) (i0 : ι)
  (hg : evOp env g = some (.func (.func gf) ⟨[]⟩ ⟨lb⟩))
  (hit : ∀ W W1, SatW w0 D noJ mem W -> Same (fun _ => True) W W1 -> It P gf lb encs xs R W1)
  (hR : ∀ b, R b -> D b ∨ b ∈ K.map (·.1))
  (hps : ∀ x ∈ xs, (encs x).length = ps.length) (hpN : ∀ p ∈ ps, p < N) (hk0 : kof i0 = 0) (hI0 : I i0) (h0 : MSub mem (K ++ M i0)) (hE : EnvSub env env')
  (round : ∀ i, I i -> ∀ (hk : kof i < xs.length) (n l : Nat) (W : World), SatW w0 D noJ (M i) W -> ¬ D l -> outside (M i) W l ->
   RunC P N ⟨Fence.wide.inRound l, n, [], W, outside (M i) W, noJ⟩ assign (Exit.then (AX P N body kof I M St l (kof i) (M i) W) (fun _ _ _ => False)) (zipE ps (encs xs[kof i]) env') (M i))
  (done : ∀ B i, kof i = xs.length -> I i -> RunX N ⟨Fence.wide, n0, mark B :: ds, w0, D, noJ⟩ Q .normal env ((B, .deferred (some [])) :: (K ++ M i)))
  (stop : ∀ B c i, St c i -> RunC P N ⟨Fence.wide, n0, mark B :: ds, w0, D, noJ⟩ c Q env ((B, .deferred (some [])) :: (K ++ M i))) :
  RunC P N ⟨Fence.wide, n0, ds, w0, D, noJ⟩ (.rangeFunc g ⟨ps⟩ assign body) Q env mem := .mk fun a w ha hm => by
 have hev := ha.eval hg
 have hB : ∀ b, w.heap.size <= b -> ¬ D b := fun b hb hd => by have := hm.dom _ hd; have := hm.same.size; simp only at *; omega
 refine wpIn_rangeFunc ?_
 intro fn _
 obtain ⟨rec, hrec⟩ : ∃ rec : LoopState -> Option Code -> Loop, rec = fun st pe => { state := st, pending := pe, fn, tmps := a.tmps, params := ⟨ps⟩, assign, body, defers := w.heap.size } := ⟨_, rfl⟩
 have hst : ∀ st pe, (rec st pe).state = st := by rw [hrec]; exact fun _ _ => rfl
 have hrs : ∀ st pe st' pe', ({ rec st pe with state := st', pending := pe' } : Loop) = rec st' pe' := by rw [hrec]; exact fun _ _ _ _ => rfl
 obtain ⟨W1, hW1⟩ : ∃ W1, (w.alloc (.deferred (some []))).alloc (.loop (rec .ready none)) = W1 := ⟨_, rfl⟩
 have hs1 : Same (fun _ => True) w W1 := by rw [<- hW1]; exact (Same.alloc _ _ _).trans (Same.alloc _ _ _)
 have hsz1 : W1.heap.size = w.heap.size + 2 := by rw [<- hW1]; simp
 have hsat1 : SatW w0 D noJ (((w.heap.size + 1, .loop (rec .ready none)) :: (w.heap.size, .deferred (some [])) :: K) ++ M i0) W1 := by
  have := ((hm.mono h0.sub).alloc (.deferred (some []))).alloc (.loop (rec .ready none))
  rw [hW1] at this
  simpa using this
 refine ⟨w.heap.size + 1, [mark w.heap.size], W1, { target := .fn (.func gf) ⟨lb⟩, args := #[.func (.yield (w.heap.size + 1)) #[] #[]] }, W1, gf, ⟨.func (.yield (w.heap.size + 1)) #[] #[] :: lb⟩, W1, ?_, ?_, ?_, ?_, (fun h => by cases h), ?_⟩
 ·rw [<- hW1, hrec]; exact run_enterLoop_outer _ _ _ _ _
 ·simp only [resolve, hev]
  simp [go_sem]
 ·intro f' _; trivial
 ·simp only [invoke]
  rw [E.ok]
  simp
 let J : Nat -> (Nat -> Prop) -> World -> Prop := fun k S W => (∃ i, (kof i = k /\ I i) /\ SatW w0 D noJ (((w.heap.size + 1, .loop (rec .ready none)) :: (w.heap.size, .deferred (some [])) :: K) ++ M i) W /\ ∀ b, S b -> b ∉ (M i).map (·.1)) /\ (∀ b, S b -> w.heap.size + 2 <= b) /\ w.heap.size + 2 <= W.heap.size
 let Jx : Nat -> (Nat -> Prop) -> World -> Prop := fun k S W => (∃ i : Code × ι, St i.1 i.2 /\ SatW w0 D noJ (((w.heap.size + 1, .loop (rec .done (some i.1))) :: (w.heap.size, .deferred (some [])) :: K) ++ M i.2) W /\ ∀ b, S b -> b ∉ (M i.2).map (·.1)) /\ (∀ b, S b -> w.heap.size + 2 <= b) /\ w.heap.size + 2 <= W.heap.size
 have cJ : ∀ k, Closed (J k) := fun k => closed_of (X := fun i => kof i = k /\ I i) (O := fun _ => ((w.heap.size + 1, .loop (rec .ready none)) :: (w.heap.size, .deferred (some [])) :: K)) (M := M) (fun b hb => hB b (by omega)) (fun i _ p hp => by
  rcases List.mem_cons.1 hp with rfl | hp
  ·simp
  ·rcases List.mem_cons.1 hp with rfl | hp
   ·simp
   ·have := hm.lt (h0.sub.mem (List.mem_append_left _ hp)); omega)
 have cJx : ∀ k, Closed (Jx k) := fun k => closed_of (X := fun i : Code × ι => St i.1 i.2) (O := fun i => ((w.heap.size + 1, .loop (rec .done (some i.1))) :: (w.heap.size, .deferred (some [])) :: K)) (M := fun i => M i.2) (fun b hb => hB b (by omega)) (fun i _ p hp => by
  rcases List.mem_cons.1 hp with rfl | hp
  ·simp
  ·rcases List.mem_cons.1 hp with rfl | hp
   ·simp
   ·have := hm.lt (h0.sub.mem (List.mem_append_left _ hp)); omega)
 have hRok : ∀ {i : ι} {A : World}, SatW w0 D noJ (((w.heap.size + 1, .loop (rec .ready none)) :: (w.heap.size, .deferred (some [])) :: K) ++ M i) A -> ∀ b, R b -> b < A.heap.size /\ b ≠ w.heap.size + 1 /\ b ∉ (M i).map (·.1) := fun {i A} h b hb => by
  rcases hR b hb with hd | hk
  ·have h1 := h.notIn hd
   refine ⟨Nat.lt_of_lt_of_le (hm.dom _ hd) h.same.size, fun e => ?_, fun e => ?_⟩
   ·subst e; exact h1 (by simp)
   ·exact h1 (by rw [List.map_append]; exact List.mem_append_right _ e)
  ·have hn := h.nodup
   rw [List.map_append, List.nodup_append] at hn
   obtain ⟨p, hp, e⟩ := List.mem_map.1 hk
   have hlt := hm.lt (h0.sub.mem (List.mem_append_left _ hp))
   have hpin := List.mem_cons_of_mem (w.heap.size + 1, Obj.loop (rec .ready none)) (List.mem_cons_of_mem (w.heap.size, Obj.deferred (some [])) hp)
   exact ⟨by have := h.lt (p := p) (List.mem_append_left _ hpin); omega, by omega, fun e2 => hn.2.2 b (List.mem_map.2 ⟨p, hpin, e⟩) b e2 rfl⟩
 refine callsIn_wide.2 ((hit w W1 hm hs1 (w.heap.size + 1) J Jx cJ cJx ?_ ⟨⟨i0, ⟨hk0, hI0⟩, hsat1, fun _ h => h.elim⟩, fun _ h => h.elim, by omega⟩).mono ?_)
 ·rintro k hk S A ⟨⟨i, ⟨rfl, hI⟩, hsat, hSM⟩, hSB, hsz⟩ hSA
  have hl : A.heap[w.heap.size + 1]? = some (.loop (rec .ready none)) := (hsat.own _ (List.mem_cons_self)).2
  have hy := run_yield (P := P) (args := ⟨encs xs[kof i]⟩) hl (by rw [hrec]; exact hps _ (List.getElem_mem hk))
  rw [hrec] at hy
  simp only at hy
  have e : (((⟨ps⟩ : Array Tmp).zip ⟨encs xs[kof i]⟩).foldl (fun t (x : Tmp × Value) => t.setIfInBounds x.1 x.2) a.tmps) = (ps.zip (encs xs[kof i])).foldl (fun t (x : Tmp × Value) => t.setIfInBounds x.1 x.2) a.tmps := by simp
  refine ⟨fn, _, assign, body, hy, roundIn_of_wpIn trivial ?_⟩
  have hro := round_ok (P := P) (n := 0) (l := w.heap.size + 1) (rec := rec) (extra := (w.heap.size, .deferred (some [])) :: K) (S := S) (R := R) (i := i) (x := xs[kof i]) hst hrs hsat (zipE_sat (hE.sat ha) hpN)
   (fun b hb => ⟨hSA b hb, by have := hSB b hb; omega, hSM b hb⟩) (hRok hsat) (round i hI hk)
  rw [<- e] at hro
  refine wpIn_mono hro ?_
  rintro ex a' W' hq
  cases ex with
  | normal =>
   obtain ⟨w2, h1, h2⟩ := hq
   refine ⟨w2, h1, wpIn_mono h2 ?_⟩
   rintro ex a3 W3 hq
   have conv : ∀ {e : Ending} {B : World}, ((e = .returned (.bool true) /\ (∃ j, kof j = kof i + 1 /\ I j /\ SatW w0 D noJ (((w.heap.size + 1, .loop (rec .ready none)) :: (w.heap.size, .deferred (some [])) :: K) ++ M j) B /\ ∀ b, S b -> b ∉ (M j).map (·.1)) /\ Same (fun b => S b ∨ R b) A B) ∨
    (e = .returned (.bool false) /\ ∃ j cd, St cd j /\ SatW w0 D noJ (((w.heap.size + 1, .loop (rec .done (some cd))) :: (w.heap.size, .deferred (some [])) :: K) ++ M j) B /\ ∀ b, S b -> b ∉ (M j).map (·.1))) ->
     (e = .returned (.bool true) /\ J (kof i + 1) S B /\ Same (fun b => S b ∨ R b) A B) ∨ (e = .returned (.bool false) /\ Jx (kof i) S B) := by
    rintro e B (⟨h1, ⟨j, h2, h3, h4, h5⟩, h6⟩ | ⟨h1, j, cd, h3, h4, h5⟩)
    ·exact .inl ⟨h1, ⟨⟨j, ⟨h2, h3⟩, h4, h5⟩, hSB, Nat.le_trans hsz h6.size⟩, h6⟩
    ·refine .inr ⟨h1, ⟨(cd, j), h3, h4, h5⟩, hSB, ?_⟩
     have := lt_of_heap (h4.own _ (List.mem_cons_self)).2
     simp only at this; omega
   cases ex with
   | normal => obtain ⟨v, w', h1, h2⟩ := hq; exact ⟨v, w', h1, conv h2⟩
   | ret => obtain ⟨v, w', h1, h2⟩ := hq; exact ⟨v, w', h1, conv h2⟩
   | exit id => obtain ⟨v, w', h1, h2⟩ := hq; exact ⟨v, w', h1, conv h2⟩
   | goto t => obtain ⟨v, w', h1, h2⟩ := hq; exact ⟨v, w', h1, conv h2⟩
   | panic ch => exact hq
   | outgrown => exact hq
  | _ => exact hq
 ·have fin : ∀ {i : ι} {st : LoopState} {pe : Option Code} {W2 : World}, st ≠ .busy -> SatW w0 D noJ (((w.heap.size + 1, .loop (rec st pe)) :: (w.heap.size, .deferred (some [])) :: K) ++ M i) W2 ->
    ∃ W3, (Instr.endLoop (w.heap.size + 1)).run P W2 = .ok (rec st pe).pending W3 /\ SatW w0 D noJ ((w.heap.size, .deferred (some [])) :: (K ++ M i)) W3 := fun {i st pe W2} hst2 h => by
   have hl := (h.own _ (List.mem_cons_self)).2
   simp only at hl
   refine ⟨_, run_endLoop hl (by rw [hst]; exact hst2), ?_⟩
   have hn := h.nodup
   simp only [List.cons_append, List.nil_append, List.map_cons, List.nodup_cons] at hn
   have h2 : SatW w0 D noJ ((w.heap.size, .deferred (some [])) :: (K ++ M i)) W2 := h.mono (List.sublist_cons_self _ _)
   exact h2.sparing (by simp only [List.map_cons]; exact hn.1) (hB _ (by omega)) (Same.putObj _ _ _ fun h => h rfl)
  have hds : SatA N (mark w.heap.size :: ds) env { a with defers := [mark w.heap.size] ++ a.defers } := ⟨ha.size, by show mark _ :: a.defers = _; rw [ha.defers], ha.env⟩
  rintro e W2 ⟨⟨v, rfl⟩, (⟨S, ⟨i, ⟨h1, h2⟩, h3, _⟩, _⟩ | ⟨k, hk, S, ⟨⟨cd, i⟩, h2, h3, _⟩, _⟩)⟩
  ·obtain ⟨W3, r1, r2⟩ := fin (by simp) h3
   rw [hrec] at r1
   exact ⟨none, W3, r1, (done _ i h1 h2).run _ W3 hds r2⟩
  ·obtain ⟨W3, r1, r2⟩ := fin (by simp) h3
   rw [hrec] at r1
   exact ⟨some cd, W3, r1, (stop _ cd i h2).run _ W3 hds r2⟩

/-! ## Ends behind marks -/
theorem sat_shut {w0 W : World} {D : Nat -> Prop} (Ds : List Nat) (h : SatW w0 D noJ mem W) (hn : ∀ d ∈ Ds, ¬ D d /\ d ∉ mem.map (·.1)) : SatW w0 D noJ mem (shut Ds W) := by
 refine h.apart (S := fun b => b ∈ Ds) (fun b hb => ⟨(hn b hb).2, (hn b hb).1⟩) (shut_same Ds W)

def opn (D : Nat) : Nat × Obj := (D, .deferred (some []))

/-- The marks of the list `Ds`, in this order, and what else is kept. -/
inductive Split : List (Nat × Obj) -> List Nat -> List (Nat × Obj) -> Prop
 | nil : Split [] [] []
 | all {Ds : List Nat} : Split (Ds.map opn) Ds []
 | mark {B : Nat} {m : List (Nat × Obj)} {Ds : List Nat} {m' : List (Nat × Obj)} (k : Split m Ds m') : Split ((B, .deferred (some [])) :: m) (B :: Ds) m'
 | keep {x : Nat × Obj} {m : List (Nat × Obj)} {Ds : List Nat} {m' : List (Nat × Obj)} (k : Split m Ds m') : Split (x :: m) Ds (x :: m')
 | drop {x : Nat × Obj} {m : List (Nat × Obj)} {Ds : List Nat} {m' : List (Nat × Obj)} (k : Split m Ds m') : Split (x :: m) Ds m'

theorem Split.facts {m : List (Nat × Obj)} {Ds : List Nat} {m' : List (Nat × Obj)} (h : Split m Ds m') (hn : (m.map (·.1)).Nodup) :
  Ds.Nodup /\ (∀ d ∈ Ds, opn d ∈ m) /\ (∀ d ∈ Ds, d ∉ m'.map (·.1)) /\ List.Sublist m' m := by
 induction h with
 | nil => exact ⟨List.nodup_nil, fun d hd => (by cases hd), fun d hd => (by cases hd), List.Sublist.refl _⟩
 | all =>
  rename_i Ds
  refine ⟨?_, fun d hd => List.mem_map.2 ⟨d, hd, rfl⟩, fun d _ h => (by cases h), List.nil_sublist _⟩
  rw [List.map_map] at hn
  have : ((fun x : Nat × Obj => x.1) ∘ opn) = id := by funext d; rfl
  rwa [this, List.map_id] at hn
 | mark k ih =>
  simp only [List.map_cons, List.nodup_cons] at hn
  obtain ⟨h1, h2, h3, h4⟩ := ih hn.2
  refine ⟨List.nodup_cons.2 ⟨fun hd => hn.1 (List.mem_map.2 ⟨_, h2 _ hd, rfl⟩), h1⟩, fun d hd => ?_, fun d hd => ?_, h4.cons _⟩
  ·rcases List.mem_cons.1 hd with rfl | hd
   ·exact List.mem_cons_self
   ·exact List.mem_cons_of_mem _ (h2 d hd)
  ·rcases List.mem_cons.1 hd with rfl | hd
   ·intro hm
    obtain ⟨p, hp, e⟩ := List.mem_map.1 hm
    exact hn.1 (List.mem_map.2 ⟨p, h4.mem hp, e⟩)
   ·exact h3 d hd
 | keep k ih =>
  simp only [List.map_cons, List.nodup_cons] at hn
  obtain ⟨h1, h2, h3, h4⟩ := ih hn.2
  refine ⟨h1, fun d hd => List.mem_cons_of_mem _ (h2 d hd), fun d hd hm => ?_, h4.cons_cons _⟩
  simp only [List.map_cons, List.mem_cons] at hm
  rcases hm with rfl | hm
  ·exact hn.1 (List.mem_map.2 ⟨_, h2 _ hd, rfl⟩)
  ·exact h3 d hd hm
 | drop k ih =>
  simp only [List.map_cons, List.nodup_cons] at hn
  obtain ⟨h1, h2, h3, h4⟩ := ih hn.2
  exact ⟨h1, fun d hd => List.mem_cons_of_mem _ (h2 d hd), h3, h4.cons _⟩

theorem x_rets {tt : List (TypeId × TI)} [T : TT P tt] {fn : Func} {rs : List ResultVar} {vs : List Value} {v : Value} {R : Ending -> World -> Prop} {Ds : List Nat} {mem' : List (Nat × Obj)} (hJ : c.J = noJ) (hds : c.ds = Ds.map mark)
  (hS : Split mem Ds mem') (hr : fn.results = ⟨rs⟩) (h : Res tt env mem' rs vs) (hv : tupO vs = some v)
  (hR : ∀ W, SatW c.w0 c.D noJ mem' W -> R (.returned v) W) : RunX N c (bodyPostK P fn R) .ret env mem := .mk fun a W ha hm => by
 obtain rfl := tupO_eq hv
 rw [hJ] at hm
 obtain ⟨h1, h2, h3, h4⟩ := hS.facts hm.nodup
 have hsh : SatW c.w0 c.D noJ mem' (shut Ds W) := sat_shut Ds (hm.mono h4) fun d hd => ⟨(hm.own _ (h2 d hd)).1, h3 d hd⟩
 exact bodyPostK_rets (ha.defers.trans hds) ⟨h1, fun d hd => (hm.own _ (h2 d hd)).2⟩ (results_run hr h ha hsh) (hR _ hsh)

/-! ## Loops whose rounds gather marks -/
structure BackD (N : Nat) (F : Fence) (n : Nat) (w0 : World) (D : Nat -> Prop) {ι : Type} (I : ι -> Prop) (dd : ι -> List Deferred) (JJ : ι -> (Nat -> Prop) -> World -> Prop) (E : ι -> List (Nat × Value)) (M : ι -> List (Nat × Obj)) (μ : ι -> Nat) (i : ι) (a : Act) (W : World) : Prop where
 ex : ∃ j, I j /\ μ j < μ i /\ SatA N (dd j) (E j) a /\ SatW w0 D (JJ j) (M j) W

theorem c_loopD {body : Code} {F : Fence} {n : Nat} {ds : List Deferred} {w0 : World} {D : Nat -> Prop} {J : (Nat -> Prop) -> World -> Prop} {ι : Type} (I : ι -> Prop) (dd : ι -> List Deferred) (JJ : ι -> (Nat -> Prop) -> World -> Prop) (E : ι -> List (Nat × Value)) (M : ι -> List (Nat × Obj)) (μ : ι -> Nat) (i0 : ι) (h0 : I i0) (hd : dd i0 = ds) (hJ : JJ i0 = J)
  (hE : EnvSub env (E i0)) (hM : MSub mem (M i0))
  (round : ∀ i, I i -> RunC P N ⟨F, n, dd i, w0, D, JJ i⟩ body (Exit.then (BackD N F n w0 D I dd JJ E M μ i) Q) (E i) (M i)) : RunC P N ⟨F, n, ds, w0, D, J⟩ (.loop body) Q env mem := .mk fun a W ha hm => by
 classical
 subst hd
 subst hJ
 let p : Act -> World -> Nat -> Prop := fun a W n => ∃ j, I j /\ μ j = n /\ SatA N (dd j) (E j) a /\ SatW w0 D (JJ j) (M j) W
 let ν : Act -> World -> Nat := fun a W => if h : ∃ n, p a W n then Classical.choose (least h) else 0
 have hν : ∀ a W, (h : ∃ n, p a W n) -> p a W (ν a W) /\ ∀ m, p a W m -> ν a W <= m := fun a W h => by
  show p a W (if h : ∃ n, p a W n then Classical.choose (least h) else 0) /\ ∀ m, p a W m -> (if h : ∃ n, p a W n then Classical.choose (least h) else 0) <= m
  rw [dif_pos h]; exact Classical.choose_spec (least h)
 refine wpIn_loop (fun a W => ∃ n, p a W n) ν ⟨_, i0, h0, rfl, hE.sat ha, hm.mono hM.sub⟩ ?_
 intro a W hp
 obtain ⟨⟨j, h1, h2, h3, h4⟩, _⟩ := hν a W hp
 refine wpIn_mono ((round j h1).run a W h3 h4) ?_
 rintro e a' W' hq
 cases e with
 | normal =>
  obtain ⟨j', k1, k2, k3, k4⟩ := hq.ex
  have hp' : ∃ n, p a' W' n := ⟨_, j', k1, rfl, k3, k4⟩
  exact ⟨hp', by have := (hν a' W' hp').2 _ ⟨j', k1, rfl, k3, k4⟩; omega⟩
 | _ => exact hq

theorem x_backD {F : Fence} {n : Nat} {ds : List Deferred} {w0 : World} {D : Nat -> Prop} {J : (Nat -> Prop) -> World -> Prop} {ι : Type} {I : ι -> Prop} {dd : ι -> List Deferred} {JJ : ι -> (Nat -> Prop) -> World -> Prop} {E : ι -> List (Nat × Value)} {M : ι -> List (Nat × Obj)} {μ : ι -> Nat} {i : ι} {Q' : Exit -> Act -> World -> Prop} (j : ι) (hI : I j) (hμ : μ j < μ i)
  (hd : dd j = ds) (hJ : JJ j = J) (hE : EnvSub env (E j)) (hM : MSub mem (M j)) :
  RunX N ⟨F, n, ds, w0, D, J⟩ (Exit.then (BackD N F n w0 D I dd JJ E M μ i) Q') .normal env mem := .mk fun a W ha hm => ⟨j, hI, hμ, by rw [hd]; exact hE.sat ha, by rw [hJ]; exact hm.mono hM.sub⟩

/-! ## A call of yield -/
theorem p_yield {x : Operand} {args : List Operand} {ats : Array TypeId} {a : Act} {W : World} {l : Nat} {dd : Option Tmp} {ty : TypeId} {pos : String} {af : Array Edge} {g : Option (Nat × Bool)} (hx : a.eval x = .func (.yield l) ⟨[]⟩ ⟨[]⟩) :
  (execOp a.eval ⟨dd, .call ⟨.value x, ⟨args⟩, ats⟩, ty, pos, af, g⟩).run P W = (Instr.yield l ⟨args.map a.eval⟩).run P W := by
 simp only [execOp, resolve, hx, Deferred.ofValue, Sem.run_bind]
 show (((invoke (.fn (.yield l) #[]) (⟨[]⟩ ++ (⟨args⟩ : Array Operand).map a.eval)).run P W)) = _
 simp only [invoke]
 congr 1
 simp

/-- the rounds' word, before the round and behind it -/
theorem l_yield {F : Fence} {lp : Nat} {ds : List Deferred} {w0 : World} {D : Nat -> Prop} {J J1 Jx : (Nat -> Prop) -> World -> Prop} [Wide F] {L l : List Oper} {d : Nat} {x : Operand} {args : List Operand} {ats : Array TypeId} {ty : TypeId} {pos : String} {af : Array Edge} {g : Option (Nat × Bool)} {vs : List Value}
  (hF : F = Fence.wide) (hw : wantB L env g = some true) (hd : Nat.blt d N = true) (hx : evOp env x = some (.func (.yield lp) ⟨[]⟩ ⟨[]⟩)) (ha : evOps env args some = some vs)
  (c1 : Closed J1) (cx : Closed Jx)
  (hy : ∀ (S : Nat -> Prop) (A : World), J S A -> (∀ b, S b -> b < A.heap.size) -> YieldAt Fence.wide 0 P lp ⟨vs⟩ A fun e B => (e = .returned (.bool true) /\ J1 S B /\ Same (fun b => S b ∨ D b) A B) ∨ (e = .returned (.bool false) /\ Jx S B))
  (k1 : RunL P N ⟨F, 0, ds, w0, D, J1⟩ L l Q ((d, .bool true) :: env) mem)
  (k2 : ∀ W0, RunL P N ⟨F, 0, ds, W0, fun _ => False, Jx⟩ L l Q ((d, .bool false) :: env) []) :
  RunL P N ⟨F, 0, ds, w0, D, J⟩ L (⟨some d, .call ⟨.value x, ⟨args⟩, ats⟩, ty, pos, af, g⟩ :: l) Q env mem :=
 l_run (c := ⟨F, 0, ds, w0, D, J⟩) hw fun a W hA hm => by
  subst hF
  have h1 := hA.evals ha
  simp only [Option.some.injEq] at h1
  obtain ⟨fn, tmps, assign, body, hr, hround⟩ := hy (keys mem) W hm.word (fun b hb => by
   obtain ⟨p, hp, e⟩ := List.mem_map.1 hb
   have := hm.lt hp; omega)
  rw [semAt_plain _ rfl, p_yield (hA.eval hx), h1, hr]
  refine ⟨Wide.depth Fence.wide 0, hround.mono ?_⟩
  rintro e B (⟨rfl, hj, hs⟩ | ⟨rfl, hj⟩)
  ·refine k1.run _ _ (hA.put hd _) ⟨hm.same.trans (hs.mono fun b hb => .inr hb), hm.dom, hm.nodup, fun p hp => ⟨(hm.own p hp).1, hs.obj (hm.own p hp).2 (.inl (List.mem_map.2 ⟨p, hp, rfl⟩))⟩, c1, hj⟩
  ·refine (k2 B).run _ _ (hA.put hd _) ⟨Same.refl _ _, fun _ h => h.elim, List.nodup_nil, fun p hp => (by cases hp), cx, cx _ _ _ _ hj (Same.refl _ _) fun b hb => (by cases hb)⟩

end
end Kin
end Go

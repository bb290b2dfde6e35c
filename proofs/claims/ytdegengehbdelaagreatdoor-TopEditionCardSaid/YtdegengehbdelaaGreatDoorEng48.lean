/- The engine: ranges over iterators, with a word that goes into the rounds; iterators whose consumers never stop. Generic: no program is named here. -/
import Derived.Test.YtdegengehbdelaaGreatDoorSeK
import Derived.RangeFuncNested
set_option linter.unusedSectionVars false
set_option linter.unusedVariables false
set_option linter.unusedSimpArgs false
namespace Go
open Go.RowKit
namespace Kin
/-- a word, with blocks that stay as they are -/
def JX (J : (Nat -> Prop) -> World -> Prop) (X : Nat -> Prop) : (Nat -> Prop) -> World -> Prop := fun S W => J (fun b => S b ∨ X b) W
theorem JX_closed {J : (Nat -> Prop) -> World -> Prop} {X : Nat -> Prop} (h : Closed J) : Closed (JX J X) := fun S S' A B hj hs hS =>
 h _ _ _ _ hj (hs.mono fun b hb hn => hb (.inl hn)) fun b hb => hb.elim (fun h => (hS b h).imp .inl id) (fun h => .inl (.inr h))
theorem JX_write {J : (Nat -> Prop) -> World -> Prop} {X S : Nat -> Prop} {A B : World} (h : Closed J) (hj : JX J X S A) (hs : Same (fun b => ¬ (S b ∨ X b)) A B) : JX J X S B := h _ _ _ _ hj hs fun b hb => .inl hb
/-- **An iterator's contract**, for consumers that never stop: called at the yield of whatever loop `l`, it hands the rounds the elements of `xs` with their blocks, one by one, and returns. -/
def ItT {α : Type} (P : Program) (gf : Nat) (lb : List Value) (Hd : α -> List Value -> List (Nat × Obj) -> Prop) (xs : List α) (R : Nat -> Prop) (W : World) : Prop :=
 ∀ (l : Nat) (J : Nat -> (Nat -> Prop) -> World -> Prop), (∀ k, Closed (J k)) ->
  (∀ k (hk : k < xs.length) (S : Nat -> Prop) (A : World) (vs : List Value) (ms : List (Nat × Obj)), Hd xs[k] vs ms -> J k (fun b => S b ∨ keys ms b) A -> (∀ b, S b ∨ keys ms b -> b < A.heap.size) ->
   (∀ p ∈ ms, A.heap[p.1]? = some p.2) -> (ms.map (·.1)).Nodup -> (∀ b, keys ms b -> ¬ S b) -> YieldAt Fence.wide 0 P l ⟨vs⟩ A fun e B =>
   e = .returned (.bool true) /\ J (k + 1) S B /\ Same (fun b => S b ∨ R b) A B) ->
  J 0 (fun _ => False) W ->
  Calls P gf ⟨.func (.yield l) #[] #[] :: lb⟩ W fun e W' => (∃ v, e = .returned v) /\ ∃ S, J xs.length S W'
theorem closed_ofT {ι : Type} {w0 : World} {D : Nat -> Prop} {X : ι -> Prop} {O : List (Nat × Obj)} {M : ι -> List (Nat × Obj)} {Jw : ι -> (Nat -> Prop) -> World -> Prop} {B : Nat} (hJ : ∀ i, Closed (Jw i)) (hw : ∀ b, B <= b -> ¬ D b) (hO : ∀ p ∈ O, p.1 < B) :
  Closed fun S W => (∃ i, X i /\ SatW w0 D (JX (Jw i) S) (O ++ M i) W /\ ∀ b, S b -> b ∉ (M i).map (·.1)) /\ (∀ b, S b -> B <= b) /\ B <= W.heap.size := by
 rintro S S' A A' ⟨⟨i, h1, h2, h3⟩, h4, h5⟩ hs hS
 have hdis : ∀ b, S b -> b ∉ (O ++ M i).map (·.1) := fun b hb hm => by
  rw [List.map_append, List.mem_append] at hm
  rcases hm with hm | hm
  ·obtain ⟨p, hp, e⟩ := List.mem_map.1 hm
   have := hO p hp
   have := h4 b hb
   omega
  ·exact h3 b hb hm
 refine ⟨⟨i, h1, ⟨h2.same.trans (hs.mono fun k hk e => hw k (h4 k e) hk), h2.dom, h2.nodup, fun p hp => ⟨(h2.own p hp).1, (hs.block _ (h2.lt hp) (fun e => hdis _ e (List.mem_map.2 ⟨p, hp, rfl⟩))).trans (h2.own p hp).2⟩, JX_closed (hJ i), ?_⟩, fun b hb hm => ?_⟩, fun b hb => ?_, Nat.le_trans h5 hs.size⟩
 ·exact hJ i _ _ _ _ h2.word (hs.mono fun b hb e => hb (.inr e)) fun b hb => hb.elim (fun h => .inl (.inl h)) fun h => (hS b h).imp .inr id
 ·rcases hS b hb with h | h
  ·exact h3 b h hm
  ·obtain ⟨p, hp, e⟩ := List.mem_map.1 hm
   have := h2.lt (List.mem_append_right _ hp)
   omega
 ·rcases hS b hb with h | h
  ·exact h4 b h
  ·exact Nat.le_trans h5 h
/-- the end of a round -/
structure RQT {ι : Type} (kof : ι -> Nat) (I : ι -> Prop) (M : ι -> List (Nat × Obj)) (Jw : ι -> (Nat -> Prop) -> World -> Prop) (k : Nat) (D X : Nat -> Prop) (W2 : World) (e : Exit) (a : Act) (W3 : World) : Prop where
 ok : match e with
  | .normal => ∃ i, kof i = k + 1 /\ I i /\ SatW W2 D (JX (Jw i) X) (M i) W3
  | _ => False
/-- the end of a round's assignments -/
structure AXT (P : Program) (N : Nat) (body : Code) {ι : Type} (kof : ι -> Nat) (I : ι -> Prop) (M : ι -> List (Nat × Obj)) (Jw : ι -> (Nat -> Prop) -> World -> Prop) (l k : Nat) (D X : Nat -> Prop) (J1 : (Nat -> Prop) -> World -> Prop) (W : World) (a' : Act) (W' : World) : Prop where
 ex : ∃ env1 mem1, SatA N [] env1 a' /\ SatW W D J1 mem1 W' /\
  ∀ (n : Nat) (W2 : World) (r : Loop), SatW W2 D J1 mem1 W2 -> Same (fun b => b ≠ l) W' W2 -> W2.heap[l]? = some (.loop r) ->
   RunC P N ⟨Fence.wide.inRound l, n, [], W2, D, J1⟩ body (RQT kof I M Jw k D X W2) env1 mem1
section
variable {P : Program} {N : Nat} {env : List (Nat × Value)} {mem : List (Nat × Obj)}
theorem roundT {ps : List Tmp} {assign body : Code} {ι : Type} {kof : ι -> Nat} {I : ι -> Prop} {M : ι -> List (Nat × Obj)} {Jw : ι -> (Nat -> Prop) -> World -> Prop} {vs : List Value} {k0 : Nat} {m0 : List (Nat × Obj)} {w0 : World} {D X : Nat -> Prop} {env' : List (Nat × Value)}
  {i : ι} {n l : Nat} {a : Act} {W : World} {rec : LoopState -> Option Code -> Loop} {O : List (Nat × Obj)} {S R : Nat -> Prop}
  (hJ : ∀ i, Closed (Jw i)) (hrec : ∀ st pe, (rec st pe).state = st) (hrs : ∀ st pe st' pe', ({ rec st pe with state := st', pending := pe' } : Loop) = rec st' pe')
  (hsat : SatW w0 D (JX (Jw i) S) (((l, .loop (rec .ready none)) :: O) ++ m0) W) (hE : SatA N [] (zipE ps vs env') a) (hX : X = fun b => S b ∨ keys ((l, .loop (rec .ready none)) :: O) b) (hS : ∀ b, S b -> b < W.heap.size /\ b ≠ l /\ b ∉ m0.map (·.1))
  (hR : ∀ b, R b -> D b ∨ b ∈ O.map (·.1))
  (round : SatW W (fun b => D b ∨ X b) (JX (Jw i) X) m0 W -> RunC P N ⟨Fence.wide.inRound l, n, [], W, fun b => D b ∨ X b, JX (Jw i) X⟩ assign (Exit.then (AXT P N body kof I M Jw l k0 (fun b => D b ∨ X b) X (JX (Jw i) X) W) (fun _ _ _ => False)) (zipE ps vs env') m0) :
  assign.wpIn (Fence.wide.inRound l) n P (Exit.then (fun a₁ w₁ => ∃ w₂, (Instr.beginRound l).run P w₁ = .ok () w₂ /\ body.wpIn (Fence.wide.inRound l) n P
   (roundPost P l fun e B => e = .returned (.bool true) /\ (∃ j, kof j = k0 + 1 /\ I j /\ SatW w0 D (JX (Jw j) S) (((l, .loop (rec .ready none)) :: O) ++ M j) B /\ ∀ b, S b -> b ∉ (M j).map (·.1)) /\ Same (fun b => S b ∨ R b) W B) a₁ w₂) (fun _ _ _ => False)) a W := by
 have hnd := hsat.nodup
 rw [List.map_append, List.nodup_append] at hnd
 obtain ⟨hn1, hn2, hn3⟩ := hnd
 have hown : ∀ p ∈ ((l, Obj.loop (rec .ready none)) :: O), ¬ D p.1 /\ W.heap[p.1]? = some p.2 /\ p.1 ∉ m0.map (·.1) := fun p hp =>
  ⟨(hsat.own p (List.mem_append_left _ hp)).1, (hsat.own p (List.mem_append_left _ hp)).2, fun h => hn3 _ (List.mem_map.2 ⟨p, hp, rfl⟩) _ h rfl⟩
 obtain ⟨d1, d2, d3⟩ := hown _ List.mem_cons_self
 simp only at d1 d2 d3
 have hXk : ∀ p ∈ ((l, Obj.loop (rec .ready none)) :: O), X p.1 := fun p hp => by rw [hX]; exact .inr (List.mem_map.2 ⟨p, hp, rfl⟩)
 have hXl : X l := hXk _ List.mem_cons_self
 have hXd : ∀ b, X b -> b < W.heap.size /\ b ∉ m0.map (·.1) := fun b hb => by
  rw [hX] at hb
  rcases hb with hb | hb
  ·exact ⟨(hS b hb).1, (hS b hb).2.2⟩
  ·obtain ⟨p, hp, rfl⟩ := List.mem_map.1 hb
   exact ⟨lt_of_heap (hown p hp).2.1, (hown p hp).2.2⟩
 have hM : SatW W (fun b => D b ∨ X b) (JX (Jw i) X) m0 W := by
  refine ⟨Same.refl _ _, fun b hb => hb.elim (fun h => Nat.lt_of_lt_of_le (hsat.dom _ h) hsat.same.size) fun h => (hXd b h).1, hn2, fun p hp => ⟨fun hb => ?_, (hsat.own p (List.mem_append_right _ hp)).2⟩, JX_closed (hJ i), ?_⟩
  ·rcases hb with hb | hb
   ·exact (hsat.own p (List.mem_append_right _ hp)).1 hb
   ·exact (hXd _ hb).2 (List.mem_map.2 ⟨p, hp, rfl⟩)
  ·refine hJ i _ _ _ _ hsat.word (Same.refl _ _) fun b hb => .inl ?_
   unfold keys at hb ⊢
   rw [List.map_append, List.mem_append]
   rw [hX] at hb
   rcases hb with hb | hb | hb
   ·exact .inl (.inr hb)
   ·exact .inr hb
   ·exact .inl (.inl hb)
 refine wpIn_mono ((round hM).run a W hE hM) ?_
 rintro e0 a' W' hq
 cases e0 with
 | normal =>
  obtain ⟨env1, mem1, hA, hm1, hrun⟩ := hq
  have hl' := hm1.same.obj d2 (.inr hXl)
  refine ⟨_, run_beginRound hl' (hrec _ _), ?_⟩
  obtain ⟨W'', hW''⟩ : ∃ W'', W'.putObj l (.loop { rec .ready none with state := .busy }) = W'' := ⟨_, rfl⟩
  rw [hW'']
  have hl2 : W''.heap[l]? = some (.loop { rec .ready none with state := .busy }) := by rw [<- hW'']; exact World.putObj_heap_same (lt_of_heap hl')
  have hs2 : Same (fun b => b ≠ l) W' W'' := by rw [<- hW'']; exact Same.putObj _ _ _ (fun h => h rfl)
  have hne : ∀ p ∈ mem1, p.1 ≠ l := fun p hp e => (hm1.own p hp).1 (.inr (e ▸ hXl))
  have hW2 : SatW W'' (fun b => D b ∨ X b) (JX (Jw i) X) mem1 W'' := by
   refine ⟨Same.refl _ _, fun b hb => ?_, hm1.nodup, fun p hp => ⟨(hm1.own p hp).1, hs2.obj (hm1.own p hp).2 (hne p hp)⟩, JX_closed (hJ i), JX_write (hJ i) hm1.word (hs2.mono fun b hb e => hb (.inr (e ▸ hXl)))⟩
   exact Nat.lt_of_lt_of_le (hm1.dom b hb) (Nat.le_trans hm1.same.size hs2.size)
  refine wpIn_mono ((hrun n W'' _ hW2 hs2 hl2).run a' W'' hA hW2) ?_
  rintro e3 a3 W3 hq
  have hq := hq.ok
  cases e3 with
  | normal =>
   obtain ⟨j, h1, h2, h3⟩ := hq
   have hl3 := h3.same.obj hl2 (.inr hXl)
   have hr := run_endRound (P := P) none hl3
   rw [show ({ ({ rec .ready none with state := .busy } : Loop) with state := if (none : Option Code).isNone then .ready else .done, pending := none } : Loop) = rec .ready none from hrs .ready none _ _] at hr
   obtain ⟨W4, hW4⟩ : ∃ W4, W3.putObj l (.loop (rec .ready none)) = W4 := ⟨_, rfl⟩
   rw [hW4] at hr
   have hs4 : Same (fun b => b ≠ l) W3 W4 := by rw [<- hW4]; exact Same.putObj _ _ _ (fun h => h rfl)
   have hl4 : W4.heap[l]? = some (.loop (rec .ready none)) := by rw [<- hW4]; exact World.putObj_heap_same (lt_of_heap hl3)
   have hall : Same (fun b => (D b ∨ X b) /\ b ≠ l) W W4 := (((hm1.same.mono fun b hb => hb.1).trans (hs2.mono fun b hb => hb.2)).trans (h3.same.mono fun b hb => hb.1)).trans (hs4.mono fun b hb => hb.2)
   have hDl : ∀ b, D b -> b ≠ l := fun b hb e => d1 (e ▸ hb)
   have hMj : ∀ p ∈ M j, ¬ D p.1 /\ ¬ X p.1 := fun p hp => ⟨fun h => (h3.own p hp).1 (.inl h), fun h => (h3.own p hp).1 (.inr h)⟩
   have hOl : ∀ p ∈ O, p.1 ≠ l := fun p hp e => by
    rw [List.map_cons, List.nodup_cons] at hn1
    exact hn1.1 (List.mem_map.2 ⟨p, hp, e⟩)
   refine ⟨_, W4, hr, rfl, ⟨j, h1, h2, ⟨hsat.same.trans (hall.mono fun b hb => ⟨.inl hb, hDl b hb⟩), hsat.dom, ?_, fun p hp => ?_, JX_closed (hJ j), ?_⟩, fun b hb hm => ?_⟩, hall.mono fun b hb => ?_⟩
   ·rw [List.map_append, List.nodup_append]
    refine ⟨hn1, h3.nodup, fun x hx y hy e => ?_⟩
    subst e
    obtain ⟨p, hp, rfl⟩ := List.mem_map.1 hx
    obtain ⟨q, hq, e⟩ := List.mem_map.1 hy
    exact (hMj q hq).2 (e ▸ hXk p hp)
   ·rcases List.mem_append.1 hp with hp | hp
    ·refine ⟨(hown p hp).1, ?_⟩
     rcases List.mem_cons.1 hp with rfl | hp2
     ·exact hl4
     ·exact hall.obj (hown p hp).2.1 ⟨.inr (hXk p hp), hOl p hp2⟩
    ·exact ⟨(hMj p hp).1, hs4.obj (h3.own p hp).2 fun e => (hMj p hp).2 (e ▸ hXl)⟩
   ·refine hJ j _ _ _ _ h3.word (hs4.mono fun b hb e => hb (.inr (e ▸ hXl))) fun b hb => .inl ?_
    rw [hX]
    unfold keys at hb ⊢
    rw [List.map_append, List.mem_append] at hb
    rcases hb with (hb | hb) | hb
    ·exact .inr (.inr hb)
    ·exact .inl hb
    ·exact .inr (.inl hb)
   ·obtain ⟨p, hp, e⟩ := List.mem_map.1 hm
    refine (hMj p hp).2 ?_
    rw [hX, e]; exact .inl hb
   ·rcases hb with hb | hb
    ·exact ⟨.inr (by rw [hX]; exact .inl hb), (hS b hb).2.1⟩
    ·rcases hR b hb with h | h
     ·exact ⟨.inl h, hDl b h⟩
     ·obtain ⟨p, hp, rfl⟩ := List.mem_map.1 h
      exact ⟨.inr (hXk p (List.mem_cons_of_mem _ hp)), hOl p hp⟩
  | _ => exact hq.elim
 | _ => exact hq
/-- the iterator's call in a range -/
theorem rangeT_call {α : Type} {ps : List Tmp} {assign body : Code} {gf : FuncId} {lb : List Value} {w0 : World} {D : Nat -> Prop} {env' : List (Nat × Value)} {a : Act} {W1 : World} {fn : FuncId} {dB : Nat} {ds : List Deferred}
  (Hd : α -> List Value -> List (Nat × Obj) -> Prop) (xs : List α) (R : Nat -> Prop) (K ex : List (Nat × Obj)) {ι : Type} (kof : ι -> Nat) (I : ι -> Prop) (M : ι -> List (Nat × Obj)) (Jw : ι -> (Nat -> Prop) -> World -> Prop) (i0 : ι) {l : Nat} (rec : LoopState -> Option Code -> Loop)
  (hrec : rec = fun st pe => { state := st, pending := pe, fn, tmps := a.tmps, params := ⟨ps⟩, assign, body, defers := dB })
  (hJ : ∀ i, Closed (Jw i)) (hsat1 : SatW w0 D (Jw i0) (((l, .loop (rec .ready none)) :: (ex ++ K)) ++ M i0) W1) (hB : ∀ b, l + 1 <= b -> ¬ D b) (hlt : ∀ p ∈ ex ++ K, p.1 < l) (hMl : ∀ p ∈ M i0, p.1 < l + 1) (hl1 : l + 1 <= W1.heap.size) (hA : SatA N ds env a) (hE : EnvSub env env')
  (hit : ItT P gf lb Hd xs R W1) (hR : ∀ b, R b -> D b ∨ b ∈ K.map (·.1)) (hps : ∀ x ∈ xs, ∀ vs ms, Hd x vs ms -> vs.length = ps.length) (hpN : ∀ p ∈ ps, p < N) (hk0 : kof i0 = 0) (hI0 : I i0)
  (round : ∀ i, I i -> ∀ (hk : kof i < xs.length) (vs : List Value) (ms : List (Nat × Obj)), Hd xs[kof i] vs ms -> ∀ (n l : Nat) (W : World) (X : Nat -> Prop), SatW W (fun b => D b ∨ X b) (JX (Jw i) X) (ms ++ M i) W -> Same D w0 W -> X l -> (∃ r, W.heap[l]? = some (.loop r)) -> (∀ p ∈ K, X p.1 /\ W.heap[p.1]? = some p.2) ->
   RunC P N ⟨Fence.wide.inRound l, n, [], W, fun b => D b ∨ X b, JX (Jw i) X⟩ assign (Exit.then (AXT P N body kof I M Jw l (kof i) (fun b => D b ∨ X b) X (JX (Jw i) X) W) (fun _ _ _ => False)) (zipE ps vs env') (ms ++ M i)) :
  Calls P gf ⟨.func (.yield l) #[] #[] :: lb⟩ W1 fun e W' => (∃ v, e = .returned v) /\ ∃ W3 i, (Instr.endLoop l).run P W' = .ok none W3 /\ kof i = xs.length /\ I i /\ SatW w0 D (Jw i) ((ex ++ K) ++ M i) W3 := by
 have hst : ∀ st pe, (rec st pe).state = st := by rw [hrec]; exact fun _ _ => rfl
 have hrs : ∀ st pe st' pe', ({ rec st pe with state := st', pending := pe' } : Loop) = rec st' pe' := by rw [hrec]; exact fun _ _ _ _ => rfl
 have hpe : ∀ st pe, (rec st pe).pending = pe := by rw [hrec]; exact fun _ _ => rfl
 let J : Nat -> (Nat -> Prop) -> World -> Prop := fun k S W => (∃ i, (kof i = k /\ I i) /\ SatW w0 D (JX (Jw i) S) (((l, .loop (rec .ready none)) :: (ex ++ K)) ++ M i) W /\ ∀ b, S b -> b ∉ (M i).map (·.1)) /\ (∀ b, S b -> l + 1 <= b) /\ l + 1 <= W.heap.size
 have hO : ∀ p ∈ ((l, Obj.loop (rec .ready none)) :: (ex ++ K)), p.1 < l + 1 := fun p hp => by
  rcases List.mem_cons.1 hp with rfl | hp
  ·simp
  ·have := hlt p hp; omega
 have cJ : ∀ k, Closed (J k) := fun k => closed_ofT (X := fun i => kof i = k /\ I i) hJ hB hO
 have hJ0 : J 0 (fun _ => False) W1 := ⟨⟨i0, ⟨hk0, hI0⟩, ⟨hsat1.same, hsat1.dom, hsat1.nodup, hsat1.own, JX_closed (hJ i0), hJ i0 _ _ _ _ hsat1.word (Same.refl _ _) fun b hb => hb.elim .inl (fun h => h.elim)⟩, fun _ h => h.elim⟩, fun _ h => h.elim, hl1⟩
 refine (hit l J cJ ?_ hJ0).mono ?_
 ·rintro k hk S A vs ms hH ⟨⟨i, ⟨rfl, hI⟩, hsat, hSM⟩, hSB, hsz⟩ hSA hms hmn hmS
  have hl : A.heap[l]? = some (.loop (rec .ready none)) := (hsat.own _ (List.mem_cons_self)).2
  have hy := run_yield (P := P) (args := ⟨vs⟩) hl (by rw [hrec]; exact hps _ (List.getElem_mem hk) _ _ hH)
  have hrd : rec .ready none = { state := .ready, pending := none, fn, tmps := a.tmps, params := ⟨ps⟩, assign, body, defers := dB } := by rw [hrec]
  rw [hrd] at hy
  simp only at hy
  have e : (((⟨ps⟩ : Array Tmp).zip ⟨vs⟩).foldl (fun t (x : Tmp × Value) => t.setIfInBounds x.1 x.2) a.tmps) = (ps.zip vs).foldl (fun t (x : Tmp × Value) => t.setIfInBounds x.1 x.2) a.tmps := by simp
  refine ⟨fn, _, assign, body, hy, roundIn_of_wpIn trivial ?_⟩
  have hall : ∀ b, (S b ∨ keys ms b) -> l + 1 <= b /\ b ∉ (M i).map (·.1) := fun b hb => ⟨hSB b hb, hSM b hb⟩
  have hsat2 : SatW w0 D (JX (Jw i) S) (((l, .loop (rec .ready none)) :: (ex ++ K)) ++ (ms ++ M i)) A := by
   refine ⟨hsat.same, hsat.dom, ?_, fun p hp => ?_, JX_closed (hJ i), ?_⟩
   ·have h1 := hsat.nodup
    rw [List.map_append, List.nodup_append] at h1
    rw [List.map_append, List.nodup_append, List.map_append, List.nodup_append]
    refine ⟨h1.1, ⟨hmn, h1.2.1, fun x hx y hy e => (hall x (.inr hx)).2 (e ▸ hy)⟩, fun x hx y hy e => ?_⟩
    rcases List.mem_append.1 hy with hy | hy
    ·obtain ⟨p, hp, rfl⟩ := List.mem_map.1 hx
     have := hO p hp
     have := (hall y (.inr hy)).1
     omega
    ·exact h1.2.2 x hx y hy e
   ·rcases List.mem_append.1 hp with hp | hp
    ·exact hsat.own p (List.mem_append_left _ hp)
    ·rcases List.mem_append.1 hp with hp | hp
     ·exact ⟨hB _ (hall _ (.inr (List.mem_map.2 ⟨p, hp, rfl⟩))).1, hms p hp⟩
     ·exact hsat.own p (List.mem_append_right _ hp)
   ·refine hJ i _ _ _ _ hsat.word (Same.refl _ _) fun b hb => .inl ?_
    unfold keys at hb ⊢
    rw [List.map_append, List.map_append, List.mem_append, List.mem_append] at hb
    rw [List.map_append, List.mem_append]
    rcases hb with (hb | hb | hb) | hb
    ·exact .inl (.inl hb)
    ·exact .inr (.inr hb)
    ·exact .inl (.inr hb)
    ·exact .inr (.inl hb)
  have hro := roundT (P := P) (n := 0) (l := l) (rec := rec) (O := ex ++ K) (S := S) (R := R) (k0 := kof i) (m0 := ms ++ M i) (vs := vs) (kof := kof) (I := I) (M := M) (body := body) (env' := env') (ps := ps) (assign := assign) hJ hst hrs hsat2 (zipE_sat (hE.sat hA) hpN) rfl
   (fun b hb => ⟨hSA b (.inl hb), by have := hSB b (.inl hb); omega, fun h => by
    rw [List.map_append, List.mem_append] at h
    exact h.elim (fun h => hmS b h hb) (hSM b (.inl hb))⟩) (fun b hb => (hR b hb).imp id fun h => by rw [List.map_append]; exact List.mem_append_right _ h)
   (fun hM => round i hI hk vs ms hH 0 l A _ hM hsat.same (.inr (List.mem_cons_self)) ⟨_, hl⟩ fun p hp => ⟨.inr (List.mem_map.2 ⟨p, List.mem_cons_of_mem _ (List.mem_append_right _ hp), rfl⟩), (hsat.own p (List.mem_append_left _ (List.mem_cons_of_mem _ (List.mem_append_right _ hp)))).2⟩)
  rw [<- e] at hro
  refine wpIn_mono hro ?_
  rintro ex2 a' W' hq
  cases ex2 with
  | normal =>
   obtain ⟨w2, h1, h2⟩ := hq
   refine ⟨w2, h1, wpIn_mono h2 ?_⟩
   rintro ex3 a3 W3 hq
   have conv : ∀ {e : Ending} {B : World}, (e = .returned (.bool true) /\ (∃ j, kof j = kof i + 1 /\ I j /\ SatW w0 D (JX (Jw j) S) (((l, .loop (rec .ready none)) :: (ex ++ K)) ++ M j) B /\ ∀ b, S b -> b ∉ (M j).map (·.1)) /\ Same (fun b => S b ∨ R b) A B) ->
     (e = .returned (.bool true) /\ J (kof i + 1) S B /\ Same (fun b => S b ∨ R b) A B) := by
    rintro e B ⟨h1, ⟨j, h2, h3, h4, h5⟩, h6⟩
    exact ⟨h1, ⟨⟨j, ⟨h2, h3⟩, h4, h5⟩, fun b hb => hSB b (.inl hb), Nat.le_trans hsz h6.size⟩, h6⟩
   cases ex3 with
   | normal => obtain ⟨v, w', h1, h2⟩ := hq; exact ⟨v, w', h1, conv h2⟩
   | ret => obtain ⟨v, w', h1, h2⟩ := hq; exact ⟨v, w', h1, conv h2⟩
   | exit id => obtain ⟨v, w', h1, h2⟩ := hq; exact ⟨v, w', h1, conv h2⟩
   | goto t => obtain ⟨v, w', h1, h2⟩ := hq; exact ⟨v, w', h1, conv h2⟩
   | panic ch => exact hq
   | outgrown => exact hq
  | _ => exact hq
 ·rintro e W2 ⟨hv, S, ⟨i, ⟨h1, h2⟩, h3, _⟩, _⟩
  have hl := (h3.own _ (List.mem_cons_self)).2
  simp only at hl
  have hend := run_endLoop (P := P) hl (by rw [hst]; decide)
  have hs : Same (fun b => b ≠ l) W2 (W2.putObj l (.loop { rec .ready none with state := .exhausted })) := Same.putObj _ _ _ fun h => h rfl
  obtain ⟨W3, hW3⟩ : ∃ W3, W2.putObj l (.loop { rec .ready none with state := .exhausted }) = W3 := ⟨_, rfl⟩
  rw [hW3] at hend hs
  rw [hpe] at hend
  refine ⟨hv, W3, i, hend, h1, h2, ?_⟩
  have hn := h3.nodup
  simp only [List.cons_append, List.map_cons, List.nodup_cons] at hn
  have hdl := (h3.own _ (List.mem_cons_self)).1
  simp only at hdl
  refine ⟨h3.same.trans (hs.mono fun b hb e => hdl (e ▸ hb)), h3.dom, hn.2, fun p hp => ⟨(h3.own p (List.mem_cons_of_mem _ hp)).1, hs.obj (h3.own p (List.mem_cons_of_mem _ hp)).2 fun e => hn.1 (List.mem_map.2 ⟨p, hp, e⟩)⟩, hJ i, ?_⟩
  refine hJ i _ _ _ _ h3.word (hs.mono fun b (hb : ¬ (_ ∨ _)) e => hb (.inl (by unfold keys; rw [e]; simp))) fun b hb => .inl (.inl ?_)
  unfold keys at hb ⊢
  exact List.mem_cons_of_mem _ hb
theorem c_rangeT0 {α : Type} {Q : Exit -> Act -> World -> Prop} {g : Operand} {ps : List Tmp} {assign body : Code} {gf : FuncId} [E : Ent P gf] {lb : List Value} {n0 : Nat} {ds : List Deferred} {w0 : World} {D : Nat -> Prop} {J0 : (Nat -> Prop) -> World -> Prop} {env' : List (Nat × Value)}
  (Hd : α -> List Value -> List (Nat × Obj) -> Prop) (xs : List α) (R : Nat -> Prop) (K : List (Nat × Obj)) {ι : Type} (kof : ι -> Nat) (I : ι -> Prop) (M : ι -> List (Nat × Obj)) (Jw : ι -> (Nat -> Prop) -> World -> Prop) (i0 : ι)
  (hJ : ∀ i, Closed (Jw i)) (hJ0 : J0 = Jw i0) (hg : evOp env g = some (.func (.func gf) ⟨[]⟩ ⟨lb⟩))
  (hit : ∀ W W1, SatW w0 D J0 mem W -> Same (fun _ => True) W W1 -> ItT P gf lb Hd xs R W1)
  (hR : ∀ b, R b -> D b ∨ b ∈ K.map (·.1))
  (hps : ∀ x ∈ xs, ∀ vs ms, Hd x vs ms -> vs.length = ps.length) (hpN : ∀ p ∈ ps, p < N) (hk0 : kof i0 = 0) (hI0 : I i0) (h0 : MSub mem (K ++ M i0)) (hE : EnvSub env env')
  (round : ∀ i, I i -> ∀ (hk : kof i < xs.length) (vs : List Value) (ms : List (Nat × Obj)), Hd xs[kof i] vs ms -> ∀ (n l : Nat) (W : World) (X : Nat -> Prop), SatW W (fun b => D b ∨ X b) (JX (Jw i) X) (ms ++ M i) W -> Same D w0 W -> X l -> (∃ r, W.heap[l]? = some (.loop r)) -> (∀ p ∈ K, X p.1 /\ W.heap[p.1]? = some p.2) ->
   RunC P N ⟨Fence.wide.inRound l, n, [], W, fun b => D b ∨ X b, JX (Jw i) X⟩ assign (Exit.then (AXT P N body kof I M Jw l (kof i) (fun b => D b ∨ X b) X (JX (Jw i) X) W) (fun _ _ _ => False)) (zipE ps vs env') (ms ++ M i))
  (done : ∀ B i, kof i = xs.length -> I i -> RunX N ⟨Fence.wide, n0, mark B :: ds, w0, D, Jw i⟩ Q .normal env ((B, .deferred (some [])) :: (K ++ M i))) :
  RunC P N ⟨Fence.wide, n0, ds, w0, D, J0⟩ (.rangeFunc g ⟨ps⟩ assign body) Q env mem := .mk fun a w ha hm => by
 subst hJ0
 have hev := ha.eval hg
 have hB : ∀ b, w.heap.size <= b -> ¬ D b := fun b hb hd => by have := hm.dom _ hd; have := hm.same.size; simp only at *; omega
 refine wpIn_rangeFunc ?_
 intro fn _
 obtain ⟨rec, hrec⟩ : ∃ rec : LoopState -> Option Code -> Loop, rec = fun st pe => { state := st, pending := pe, fn, tmps := a.tmps, params := ⟨ps⟩, assign, body, defers := w.heap.size } := ⟨_, rfl⟩
 obtain ⟨W1, hW1⟩ : ∃ W1, (w.alloc (.deferred (some []))).alloc (.loop (rec .ready none)) = W1 := ⟨_, rfl⟩
 have hs1 : Same (fun _ => True) w W1 := by rw [<- hW1]; exact (Same.alloc _ _ _).trans (Same.alloc _ _ _)
 have hsz1 : W1.heap.size = w.heap.size + 2 := by rw [<- hW1]; simp
 have hsat1 : SatW w0 D (Jw i0) (((w.heap.size + 1, .loop (rec .ready none)) :: ([(w.heap.size, .deferred (some []))] ++ K)) ++ M i0) W1 := by
  have := ((hm.mono h0.sub).alloc (.deferred (some []))).alloc (.loop (rec .ready none))
  rw [hW1] at this
  simpa using this
 refine ⟨w.heap.size + 1, [mark w.heap.size], W1, { target := .fn (.func gf) ⟨lb⟩, args := #[.func (.yield (w.heap.size + 1)) #[] #[]] }, W1, gf, ⟨.func (.yield (w.heap.size + 1)) #[] #[] :: lb⟩, W1, ?_, ?_, ?_, ?_, (fun h => by cases h), ?_⟩
 ·rw [<- hW1, hrec]; exact run_enterLoop_outer _ _ _ _ _
 ·simp only [resolve, hev]
  simp [go_sem]
 ·intro f' _; trivial
 ·simp only [invoke]
  rw [E.ok]
  simp
 have hmlt : ∀ p ∈ K ++ M i0, p.1 < w.heap.size := fun p hp => hm.lt (h0.sub.mem hp)
 refine callsIn_wide.2 ((rangeT_call Hd xs R K [(w.heap.size, .deferred (some []))] kof I M Jw i0 rec hrec hJ hsat1 (fun b hb => hB b (by omega)) (fun p hp => ?_) (fun p hp => by have := hmlt p (List.mem_append_right _ hp); omega) (by omega) ha hE (hit w W1 hm hs1) hR hps hpN hk0 hI0 round).mono ?_)
 ·rcases List.mem_append.1 hp with hp | hp
  ·rw [List.mem_singleton.1 hp]; simp
  ·have := hmlt p (List.mem_append_left _ hp); omega
 ·rintro e W2 ⟨⟨v, rfl⟩, W3, i, r1, h1, h2, h3⟩
  have hds : SatA N (mark w.heap.size :: ds) env { a with defers := [mark w.heap.size] ++ a.defers } := ⟨ha.size, by show mark _ :: a.defers = _; rw [ha.defers], ha.env⟩
  exact ⟨none, W3, r1, (done _ i h1 h2).run _ W3 hds h3⟩
theorem c_rangeT1 {α : Type} {Q : Exit -> Act -> World -> Prop} {g : Operand} {ps : List Tmp} {assign body : Code} {gf : FuncId} [E : Ent P gf] {lb : List Value} {n0 l0 : Nat} {ds : List Deferred} {w0 : World} {D : Nat -> Prop} {J0 : (Nat -> Prop) -> World -> Prop} {env' : List (Nat × Value)}
  (Hd : α -> List Value -> List (Nat × Obj) -> Prop) (xs : List α) (R : Nat -> Prop) (K : List (Nat × Obj)) {ι : Type} (kof : ι -> Nat) (I : ι -> Prop) (M : ι -> List (Nat × Obj)) (Jw : ι -> (Nat -> Prop) -> World -> Prop) (i0 : ι)
  (hJ : ∀ i, Closed (Jw i)) (hJ0 : J0 = Jw i0) (hl0 : D l0) (hr0 : ∃ r, w0.heap[l0]? = some (.loop r)) (hg : evOp env g = some (.func (.func gf) ⟨[]⟩ ⟨lb⟩))
  (hit : ∀ W W1, SatW w0 D J0 mem W -> Same (fun _ => True) W W1 -> ItT P gf lb Hd xs R W1)
  (hR : ∀ b, R b -> D b ∨ b ∈ K.map (·.1))
  (hps : ∀ x ∈ xs, ∀ vs ms, Hd x vs ms -> vs.length = ps.length) (hpN : ∀ p ∈ ps, p < N) (hk0 : kof i0 = 0) (hI0 : I i0) (h0 : MSub mem (K ++ M i0)) (hE : EnvSub env env')
  (round : ∀ i, I i -> ∀ (hk : kof i < xs.length) (vs : List Value) (ms : List (Nat × Obj)), Hd xs[kof i] vs ms -> ∀ (n l : Nat) (W : World) (X : Nat -> Prop), SatW W (fun b => D b ∨ X b) (JX (Jw i) X) (ms ++ M i) W -> Same D w0 W -> X l -> (∃ r, W.heap[l]? = some (.loop r)) -> (∀ p ∈ K, X p.1 /\ W.heap[p.1]? = some p.2) ->
   RunC P N ⟨Fence.wide.inRound l, n, [], W, fun b => D b ∨ X b, JX (Jw i) X⟩ assign (Exit.then (AXT P N body kof I M Jw l (kof i) (fun b => D b ∨ X b) X (JX (Jw i) X) W) (fun _ _ _ => False)) (zipE ps vs env') (ms ++ M i))
  (done : ∀ i, kof i = xs.length -> I i -> RunX N ⟨Fence.wide.inRound l0, n0, ds, w0, D, Jw i⟩ Q .normal env (K ++ M i)) :
  RunC P N ⟨Fence.wide.inRound l0, n0, ds, w0, D, J0⟩ (.rangeFunc g ⟨ps⟩ assign body) Q env mem := .mk fun a w ha hm => by
 subst hJ0
 have hev := ha.eval hg
 have hB : ∀ b, w.heap.size <= b -> ¬ D b := fun b hb hd => by have := hm.dom _ hd; have := hm.same.size; simp only at *; omega
 obtain ⟨r0, hr0⟩ := hr0
 have hlw : w.heap[l0]? = some (.loop r0) := hm.same.obj hr0 hl0
 refine wpIn_rangeFunc ?_
 intro fn _
 obtain ⟨rec, hrec⟩ : ∃ rec : LoopState -> Option Code -> Loop, rec = fun st pe => { state := st, pending := pe, fn, tmps := a.tmps, params := ⟨ps⟩, assign, body, defers := r0.defers } := ⟨_, rfl⟩
 obtain ⟨W1, hW1⟩ : ∃ W1, w.alloc (.loop (rec .ready none)) = W1 := ⟨_, rfl⟩
 have hs1 : Same (fun _ => True) w W1 := by rw [<- hW1]; exact Same.alloc _ _ _
 have hsz1 : W1.heap.size = w.heap.size + 1 := by rw [<- hW1]; simp
 have hsat1 : SatW w0 D (Jw i0) (((w.heap.size, .loop (rec .ready none)) :: ([] ++ K)) ++ M i0) W1 := by
  have := (hm.mono h0.sub).alloc (.loop (rec .ready none))
  rw [hW1] at this
  simpa using this
 refine ⟨w.heap.size, [], W1, { target := .fn (.func gf) ⟨lb⟩, args := #[.func (.yield w.heap.size) #[] #[]] }, W1, gf, ⟨.func (.yield w.heap.size) #[] #[] :: lb⟩, W1, ?_, ?_, ?_, ?_, (fun h => by cases h), ?_⟩
 ·rw [<- hW1, hrec]; exact run_enterLoop_inner hlw _ _ _ _ _
 ·simp only [resolve, hev]
  simp [go_sem]
 ·intro f' _; trivial
 ·simp only [invoke]
  rw [E.ok]
  simp
 have hmlt : ∀ p ∈ K ++ M i0, p.1 < w.heap.size := fun p hp => hm.lt (h0.sub.mem hp)
 refine Wide.calls ((rangeT_call Hd xs R K [] kof I M Jw i0 rec hrec hJ hsat1 (fun b hb => hB b (by omega)) (fun p hp => hmlt p (List.mem_append_left _ hp)) (fun p hp => by have := hmlt p (List.mem_append_right _ hp); omega) (by omega) ha hE (hit w W1 hm hs1) hR hps hpN hk0 hI0 round).mono ?_)
 ·rintro e W2 ⟨⟨v, rfl⟩, W3, i, r1, h1, h2, h3⟩
  exact ⟨none, W3, r1, (done i h1 h2).run _ W3 ha h3⟩
/-- from the assignments' end into the body -/
theorem x_bodyT {ι : Type} {kof : ι -> Nat} {I : ι -> Prop} {M : ι -> List (Nat × Obj)} {Jw : ι -> (Nat -> Prop) -> World -> Prop} {body : Code} {l k n' : Nat} {D X : Nat -> Prop} {J1 : (Nat -> Prop) -> World -> Prop} {W : World} {F : Fence}
  (h : ∀ (n : Nat) (W2 : World) (r : Loop), SatW W2 D J1 mem W2 -> Same (fun b => D b /\ b ≠ l) W W2 -> W2.heap[l]? = some (.loop r) ->
   RunC P N ⟨Fence.wide.inRound l, n, [], W2, D, J1⟩ body (RQT kof I M Jw k D X W2) env mem) :
  RunX N ⟨F, n', [], W, D, J1⟩ (Exit.then (AXT P N body kof I M Jw l k D X J1 W) (fun _ _ _ => False)) .normal env mem := .mk fun _ W' ha hm =>
 ⟨env, mem, ha, hm, fun n W2 r h2 hs hr => h n W2 r h2 ((hm.same.mono fun b hb => hb.1).trans (hs.mono fun b hb => hb.2)) hr⟩
theorem x_nextT {ι : Type} {kof : ι -> Nat} {I : ι -> Prop} {M : ι -> List (Nat × Obj)} {Jw : ι -> (Nat -> Prop) -> World -> Prop} {k n : Nat} {D X : Nat -> Prop} {W2 : World} {F : Fence} {J1 : (Nat -> Prop) -> World -> Prop} (i : ι) (hk : kof i = k + 1) (hI : I i) (hJ : J1 = JX (Jw i) X) (hM : MSub mem (M i)) :
  RunX N ⟨F, n, [], W2, D, J1⟩ (RQT kof I M Jw k D X W2) .normal env mem := .mk fun _ _ _ hm => ⟨i, hk, hI, by subst hJ; exact hm.mono hM.sub⟩
/-- a call of yield that hands blocks over, in whatever round -/
theorem l_yieldT {F : Fence} {Q : Exit -> Act -> World -> Prop} {lp n : Nat} {ds : List Deferred} {w0 : World} {D : Nat -> Prop} {J J1 : (Nat -> Prop) -> World -> Prop} [Wide F] {L l : List Oper} {d : Nat} {x : Operand} {args : List Operand} {ats : Array TypeId} {ty : TypeId} {pos : String} {af : Array Edge} {g : Option (Nat × Bool)} {vs : List Value} {ms mem' : List (Nat × Obj)}
  (hw : wantB L env g = some true) (hd : Nat.blt d N = true) (hx : evOp env x = some (.func (.yield lp) ⟨[]⟩ ⟨[]⟩)) (ha : evOps env args some = some vs) (hp : mem.Perm (ms ++ mem')) (c1 : Closed J1)
  (hy : ∀ (S : Nat -> Prop) (A : World), J (fun b => S b ∨ keys ms b) A -> (∀ b, S b ∨ keys ms b -> b < A.heap.size) -> Same D w0 A -> (∀ b, D b -> b < A.heap.size) -> (∀ b, D b -> ¬ S b /\ ¬ keys ms b) -> (∀ p ∈ ms, A.heap[p.1]? = some p.2) -> (ms.map (·.1)).Nodup -> (∀ b, keys ms b -> ¬ S b) ->
   YieldAt Fence.wide 0 P lp ⟨vs⟩ A fun e B => e = .returned (.bool true) /\ J1 S B /\ Same (fun b => S b ∨ D b) A B)
  (k1 : RunL P N ⟨F, n, ds, w0, D, J1⟩ L l Q ((d, .bool true) :: env) mem') :
  RunL P N ⟨F, n, ds, w0, D, J⟩ L (⟨some d, .call ⟨.value x, ⟨args⟩, ats⟩, ty, pos, af, g⟩ :: l) Q env mem :=
 l_run (c := ⟨F, n, ds, w0, D, J⟩) hw fun a W hA hm0 => by
  have hm := hm0.perm hp
  have h1 := hA.evals ha
  simp only [Option.some.injEq] at h1
  have hk : ∀ b, (keys mem' b ∨ keys ms b) -> keys (ms ++ mem') b := fun b hb => by
   unfold keys at hb ⊢
   rw [List.map_append, List.mem_append]
   exact hb.symm
  have hnd := hm.nodup
  rw [List.map_append, List.nodup_append] at hnd
  have hDk : ∀ b, D b -> ¬ keys mem' b /\ ¬ keys ms b := fun b hb => ⟨fun h => hm.notIn hb (hk b (.inl h)), fun h => hm.notIn hb (hk b (.inr h))⟩
  obtain ⟨fn, tmps, assign, body, hr, hround⟩ := hy (keys mem') W (hm.closed _ _ _ _ hm.word (Same.refl _ _) fun b hb => .inl (hk b hb)) (fun b hb => by
   obtain ⟨p, hp, e⟩ := List.mem_map.1 (hk b hb)
   have := hm.lt hp; omega) hm.same (fun b hb => Nat.lt_of_lt_of_le (hm.dom b hb) hm.same.size) hDk (fun p hp => (hm.own p (List.mem_append_left _ hp)).2) hnd.1 (fun b h1 h2 => hnd.2.2 b h1 b h2 rfl)
  have hround2 : RoundIn F (n - 1) P lp fn tmps assign body W fun e B => e = .returned (.bool true) /\ J1 (keys mem') B /\ Same (fun b => keys mem' b ∨ D b) W B := by
   rename_i hwF
   rcases hwF.w with rfl | ⟨l0, rfl⟩
   ·exact ⟨trivial, fun c cs _ => hround.2 c cs (room_wide _)⟩
   ·exact ⟨trivial, fun c cs _ => hround.2 c cs (room_wide _)⟩
  rw [semAt_plain _ rfl, p_yield (hA.eval hx), h1, hr]
  refine ⟨Wide.depth F n, hround2.mono ?_⟩
  rintro e B ⟨rfl, hj, hs⟩
  refine k1.run _ _ (hA.put hd _) ⟨hm.same.trans (hs.mono fun b hb => .inr hb), hm.dom, hnd.2.1, fun p hp => ?_, c1, hj⟩
  have ho := hm.own p (List.mem_append_right _ hp)
  exact ⟨ho.1, hs.obj ho.2 (.inl (List.mem_map.2 ⟨p, hp, rfl⟩))⟩
end
end Kin
end Go

/- The engine: iterators that hand over blocks of their own with what they yield. Generic: no program is named here. -/
import Derived.Test.YtcodoembnjemkaaGreatSgB
set_option linter.unusedSectionVars false
set_option linter.unusedVariables false
set_option linter.unusedSimpArgs false
namespace Go
open Go.RowKit
namespace Kin
/-- **An iterator's contract**, with blocks that are handed over: called at the yield of whatever loop `l`: it hands the rounds the elements of `xs`, one by one, as values `vs` with blocks `ms` (as `Hd` tells), and returns; or a round says 'no more', and it returns. -/
def ItH {α : Type} (P : Program) (gf : Nat) (lb : List Value) (Hd : α -> List Value -> List (Nat × Obj) -> Prop) (xs : List α) (R : Nat -> Prop) (W : World) : Prop :=
 ∀ (l : Nat) (J Jx : Nat -> (Nat -> Prop) -> World -> Prop), (∀ k, Closed (J k)) -> (∀ k, Closed (Jx k)) ->
  (∀ k (hk : k < xs.length) (S : Nat -> Prop) (A : World) (vs : List Value) (ms : List (Nat × Obj)), Hd xs[k] vs ms -> J k (fun b => S b ∨ keys ms b) A -> (∀ b, S b ∨ keys ms b -> b < A.heap.size) ->
   (∀ p ∈ ms, A.heap[p.1]? = some p.2) -> (ms.map (·.1)).Nodup -> (∀ b, keys ms b -> ¬ S b) -> YieldAt Fence.wide 0 P l ⟨vs⟩ A fun e B =>
   (e = .returned (.bool true) /\ J (k + 1) S B /\ Same (fun b => S b ∨ R b) A B) ∨ (e = .returned (.bool false) /\ Jx k S B)) ->
  J 0 (fun _ => False) W ->
  Calls P gf ⟨.func (.yield l) #[] #[] :: lb⟩ W fun e W' => (∃ v, e = .returned v) /\ ((∃ S, J xs.length S W') ∨ ∃ k, k < xs.length /\ ∃ S, Jx k S W')

section
variable {P : Program} {N : Nat} {c : Cx} {Q : Exit -> Act -> World -> Prop} {env : List (Nat × Value)} {mem : List (Nat × Obj)}

/-- What an engine's walk of a range shows of one round, said of the law's own words. -/
theorem round_okH {ps : List Tmp} {assign body : Code} {ι : Type} {kof : ι -> Nat} {I : ι -> Prop} {M : ι -> List (Nat × Obj)} {St : Code -> ι -> Prop} {vs : List Value} {k0 : Nat} {m0 : List (Nat × Obj)} {w0 : World} {D : Nat -> Prop} {env' : List (Nat × Value)}
  {n l : Nat} {a : Act} {W : World} {rec : LoopState -> Option Code -> Loop} {extra : List (Nat × Obj)} {S R : Nat -> Prop}
  (hrec : ∀ st pe, (rec st pe).state = st) (hrs : ∀ st pe st' pe', ({ rec st pe with state := st', pending := pe' } : Loop) = rec st' pe')
  (hsat : SatW w0 D noJ (((l, .loop (rec .ready none)) :: extra) ++ m0) W) (hE : SatA N [] (zipE ps vs env') a) (hS : ∀ b, S b -> b < W.heap.size /\ b ≠ l /\ b ∉ m0.map (·.1))
  (hR : ∀ b, R b -> b < W.heap.size /\ b ≠ l /\ b ∉ m0.map (·.1))
  (round : ∀ (n l : Nat) (W : World), SatW w0 D noJ m0 W -> ¬ D l -> outside m0 W l ->
   RunC P N ⟨Fence.wide.inRound l, n, [], W, outside m0 W, noJ⟩ assign (Exit.then (AX P N body kof I M St l (k0) m0 W) (fun _ _ _ => False)) (zipE ps vs env') m0) :
  assign.wpIn (Fence.wide.inRound l) n P (Exit.then (fun a₁ w₁ => ∃ w₂, (Instr.beginRound l).run P w₁ = .ok () w₂ /\ body.wpIn (Fence.wide.inRound l) n P
   (roundPost P l fun e B => (e = .returned (.bool true) /\ (∃ j, kof j = k0 + 1 /\ I j /\ SatW w0 D noJ (((l, .loop (rec .ready none)) :: extra) ++ M j) B /\ ∀ b, S b -> b ∉ (M j).map (·.1)) /\ Same (fun b => S b ∨ R b) W B) ∨
    (e = .returned (.bool false) /\ ∃ j cd, St cd j /\ SatW w0 D noJ (((l, .loop (rec .done (some cd))) :: extra) ++ M j) B /\ ∀ b, S b -> b ∉ (M j).map (·.1))) a₁ w₂) (fun _ _ _ => False)) a W := by
 have hM : SatW w0 D noJ m0 W := hsat.mono (List.sublist_append_right _ _)
 have hnd := hsat.nodup
 rw [List.map_append, List.nodup_append] at hnd
 obtain ⟨hn1, _, hn3⟩ := hnd
 have hex : ∀ p ∈ ((l, Obj.loop (rec .ready none)) :: extra), ¬ D p.1 /\ W.heap[p.1]? = some p.2 /\ p.1 ∉ m0.map (·.1) := fun p hp =>
  ⟨(hsat.own p (List.mem_append_left _ hp)).1, (hsat.own p (List.mem_append_left _ hp)).2, fun h => hn3 _ (List.mem_map.2 ⟨p, hp, rfl⟩) _ h rfl⟩
 obtain ⟨d1, d2, d3⟩ := hex _ List.mem_cons_self
 simp only at d1 d2 d3
 have o2 : outside m0 W l := ⟨lt_of_heap d2, d3⟩
 refine wpIn_mono ((round n l W hM d1 o2).run a W hE hM.self) ?_
 rintro e0 a' W' hq
 cases e0 with
 | normal =>
  obtain ⟨env1, mem1, hA, hm1, hrun⟩ := hq
  have hl' := hm1.same.obj d2 o2
  refine ⟨_, run_beginRound hl' (hrec _ _), ?_⟩
  obtain ⟨W'', hW''⟩ : ∃ W'', W'.putObj l (.loop { rec .ready none with state := .busy }) = W'' := ⟨_, rfl⟩
  rw [hW'']
  have hl2 : W''.heap[l]? = some (.loop { rec .ready none with state := .busy }) := by rw [<- hW'']; exact World.putObj_heap_same (lt_of_heap hl')
  have hs2 : Same (fun b => b ≠ l) W' W'' := by rw [<- hW'']; exact Same.putObj _ _ _ (fun h => h rfl)
  have a2 := hm1.away o2.1 o2.2
  have hW2 : SatW w0 D noJ mem1 W'' := (hM.back hm1).sparing a2 d1 hs2
  have hsz : W.heap.size <= W''.heap.size := Nat.le_trans hm1.same.size hs2.size
  have p2 : outside mem1 W'' l := ⟨by have := o2.1; omega, a2⟩
  have far : ∀ b, b < W.heap.size -> b ≠ l -> b ∉ m0.map (·.1) -> outside mem1 W'' b := fun b h1 _ h3 => ⟨by omega, hm1.away h1 h3⟩
  refine wpIn_mono ((hrun n W'' _ hW2.self hs2 hl2 p2).run a' W'' hA hW2.self) ?_
  rintro e3 a3 W3 hq
  have leave : ∀ {m3 : List (Nat × Obj)} (jump : Option Code), SatW W'' (outside mem1 W'') noJ m3 W3 -> ∃ W4,
    (Instr.endRound l jump).run P W3 = .ok (.bool jump.isNone) W4 /\ SatW w0 D noJ (((l, .loop (rec (if jump.isNone then .ready else .done) jump)) :: extra) ++ m3) W4 /\
    (∀ b, S b -> b ∉ m3.map (·.1)) /\ Same (fun b => S b ∨ R b) W W4 := fun {m3} jump h3 => by
   have hl3 := h3.same.obj hl2 p2
   have hr := run_endRound (P := P) jump hl3
   rw [show ({ ({ rec .ready none with state := .busy } : Loop) with state := if jump.isNone then .ready else .done, pending := jump } : Loop) = rec (if jump.isNone then .ready else .done) jump from hrs .ready none _ _] at hr
   refine ⟨_, hr, ?_, fun b hb => h3.away (far b (hS b hb).1 (hS b hb).2.1 (hS b hb).2.2).1 (far b (hS b hb).1 (hS b hb).2.1 (hS b hb).2.2).2, ?_⟩
   ·have hl3n : l ∉ m3.map (·.1) := h3.away p2.1 p2.2
    have h4 : SatW w0 D noJ m3 (W3.putObj l (.loop (rec (if jump.isNone then .ready else .done) jump))) := (hW2.back h3).sparing hl3n d1 (Same.putObj _ _ _ (fun h => h rfl))
    refine h4.more hn1 fun p hp => ?_
    rcases List.mem_cons.1 hp with rfl | hp
    ·exact ⟨d1, World.putObj_heap_same (lt_of_heap hl3), hl3n⟩
    ·obtain ⟨q1, q2, q3⟩ := hex p (List.mem_cons_of_mem _ hp)
     have hne : p.1 ≠ l := fun e => by
      simp only [List.map_cons, List.nodup_cons] at hn1
      exact hn1.1 (List.mem_map.2 ⟨p, hp, e⟩)
     have f1 := far p.1 (lt_of_heap q2) hne q3
     have g1 := hm1.same.obj q2 ⟨lt_of_heap q2, q3⟩
     have g2 := hs2.obj g1 hne
     have g3 := h3.same.obj g2 f1
     exact ⟨q1, (World.putObj_heap_other hne).trans g3, h3.away f1.1 f1.2⟩
   ·have all : ∀ b, (S b ∨ R b) -> b < W.heap.size /\ b ≠ l /\ b ∉ m0.map (·.1) := fun b hb => hb.elim (hS b) (hR b)
    exact (((hm1.same.mono fun b hb => ⟨(all b hb).1, (all b hb).2.2⟩).trans (hs2.mono fun b hb => (all b hb).2.1)).trans
     (h3.same.mono fun b hb => far b (all b hb).1 (all b hb).2.1 (all b hb).2.2)).trans (Same.putObj _ _ _ fun h => (all _ h).2.1 rfl)
  cases e3 with
  | normal =>
   obtain ⟨j, h1, h2, h3⟩ := hq.ok
   obtain ⟨W4, r1, r2, r3, r4⟩ := leave none h3
   exact ⟨_, W4, r1, .inl ⟨rfl, ⟨j, h1, h2, r2, r3⟩, r4⟩⟩
  | ret =>
   obtain ⟨j, h1, h3⟩ := hq.ok
   obtain ⟨W4, r1, r2, r3, r4⟩ := leave (some .ret) h3
   exact ⟨_, W4, r1, .inr ⟨rfl, j, .ret, h1, r2, r3⟩⟩
  | exit id =>
   obtain ⟨j, h1, h3⟩ := hq.ok
   obtain ⟨W4, r1, r2, r3, r4⟩ := leave (some (.exit id)) h3
   exact ⟨_, W4, r1, .inr ⟨rfl, j, .exit id, h1, r2, r3⟩⟩
  | goto t =>
   obtain ⟨j, h1, h3⟩ := hq.ok
   obtain ⟨W4, r1, r2, r3, r4⟩ := leave (some (.goto t)) h3
   exact ⟨_, W4, r1, .inr ⟨rfl, j, .goto t, h1, r2, r3⟩⟩
  | panic ch => exact hq.ok
  | outgrown => exact hq.ok
 | _ => exact hq



theorem c_rangeH {α : Type} {g : Operand} {ps : List Tmp} {assign body : Code} {gf : FuncId} [E : Ent P gf] {lb : List Value} {n0 : Nat} {ds : List Deferred} {w0 : World} {D : Nat -> Prop} {env' : List (Nat × Value)}
  (Hd : α -> List Value -> List (Nat × Obj) -> Prop) (xs : List α) (R : Nat -> Prop) (K : List (Nat × Obj)) {ι : Type} (kof : ι -> Nat) (I : ι -> Prop) (M : ι -> List (Nat × Obj)) (St : Code -> ι -> Prop) (i0 : ι)
  (hg : evOp env g = some (.func (.func gf) ⟨[]⟩ ⟨lb⟩))
  (hit : ∀ W W1, SatW w0 D noJ mem W -> Same (fun _ => True) W W1 -> ItH P gf lb Hd xs R W1)
  (hR : ∀ b, R b -> D b ∨ b ∈ K.map (·.1))
  (hps : ∀ x ∈ xs, ∀ vs ms, Hd x vs ms -> vs.length = ps.length) (hpN : ∀ p ∈ ps, p < N) (hk0 : kof i0 = 0) (hI0 : I i0) (h0 : MSub mem (K ++ M i0)) (hE : EnvSub env env')
  (round : ∀ i, I i -> ∀ (hk : kof i < xs.length) (vs : List Value) (ms : List (Nat × Obj)), Hd xs[kof i] vs ms -> ∀ (n l : Nat) (W : World), SatW w0 D noJ (ms ++ M i) W -> ¬ D l -> outside (ms ++ M i) W l ->
   RunC P N ⟨Fence.wide.inRound l, n, [], W, outside (ms ++ M i) W, noJ⟩ assign (Exit.then (AX P N body kof I M St l (kof i) (ms ++ M i) W) (fun _ _ _ => False)) (zipE ps vs env') (ms ++ M i))
  (done : ∀ B i, kof i = xs.length -> I i -> RunX N ⟨Fence.wide, n0, mark B :: ds, w0, D, noJ⟩ Q .normal env ((B, .deferred (some [])) :: (K ++ M i)))
  (stop : ∀ B c i, St c i -> RunC P N ⟨Fence.wide, n0, mark B :: ds, w0, D, noJ⟩ c Q env ((B, .deferred (some [])) :: (K ++ M i))) :
  RunC P N ⟨Fence.wide, n0, ds, w0, D, noJ⟩ (.rangeFunc g ⟨ps⟩ assign body) Q env mem := .mk fun a w ha hm => by
 have hev := ha.eval hg
 have hB : ∀ b, w.heap.size <= b -> ¬ D b := fun b hb hd => by have := hm.dom _ hd; have := hm.same.size; simp only at *; omega
 refine wpIn_rangeFunc ?_
 intro fn _
 obtain ⟨rec, hrec⟩ : ∃ rec : LoopState -> Option Code -> Loop, rec = fun st pe => { state := st, pending := pe, fn, tmps := a.tmps, params := ⟨ps⟩, assign, body, defers := w.heap.size } := ⟨_, rfl⟩
 have hst : ∀ st pe, (rec st pe).state = st := by rw [hrec]; exact fun _ _ => rfl
 have hrs : ∀ st pe st' pe', ({ rec st pe with state := st', pending := pe' } : Loop) = rec st' pe' := by rw [hrec]; exact fun _ _ _ _ => rfl
 obtain ⟨W1, hW1⟩ : ∃ W1, (w.alloc (.deferred (some []))).alloc (.loop (rec .ready none)) = W1 := ⟨_, rfl⟩
 have hs1 : Same (fun _ => True) w W1 := by rw [<- hW1]; exact (Same.alloc _ _ _).trans (Same.alloc _ _ _)
 have hsz1 : W1.heap.size = w.heap.size + 2 := by rw [<- hW1]; simp
 have hsat1 : SatW w0 D noJ (((w.heap.size + 1, .loop (rec .ready none)) :: (w.heap.size, .deferred (some [])) :: K) ++ M i0) W1 := by
  have := ((hm.mono h0.sub).alloc (.deferred (some []))).alloc (.loop (rec .ready none))
  rw [hW1] at this
  simpa using this
 refine ⟨w.heap.size + 1, [mark w.heap.size], W1, { target := .fn (.func gf) ⟨lb⟩, args := #[.func (.yield (w.heap.size + 1)) #[] #[]] }, W1, gf, ⟨.func (.yield (w.heap.size + 1)) #[] #[] :: lb⟩, W1, ?_, ?_, ?_, ?_, (fun h => by cases h), ?_⟩
 ·rw [<- hW1, hrec]; exact run_enterLoop_outer _ _ _ _ _
 ·simp only [resolve, hev]
  simp [go_sem]
 ·intro f' _; trivial
 ·simp only [invoke]
  rw [E.ok]
  simp
 let J : Nat -> (Nat -> Prop) -> World -> Prop := fun k S W => (∃ i, (kof i = k /\ I i) /\ SatW w0 D noJ (((w.heap.size + 1, .loop (rec .ready none)) :: (w.heap.size, .deferred (some [])) :: K) ++ M i) W /\ ∀ b, S b -> b ∉ (M i).map (·.1)) /\ (∀ b, S b -> w.heap.size + 2 <= b) /\ w.heap.size + 2 <= W.heap.size
 let Jx : Nat -> (Nat -> Prop) -> World -> Prop := fun k S W => (∃ i : Code × ι, St i.1 i.2 /\ SatW w0 D noJ (((w.heap.size + 1, .loop (rec .done (some i.1))) :: (w.heap.size, .deferred (some [])) :: K) ++ M i.2) W /\ ∀ b, S b -> b ∉ (M i.2).map (·.1)) /\ (∀ b, S b -> w.heap.size + 2 <= b) /\ w.heap.size + 2 <= W.heap.size
 have cJ : ∀ k, Closed (J k) := fun k => closed_of (X := fun i => kof i = k /\ I i) (O := fun _ => ((w.heap.size + 1, .loop (rec .ready none)) :: (w.heap.size, .deferred (some [])) :: K)) (M := M) (fun b hb => hB b (by omega)) (fun i _ p hp => by
  rcases List.mem_cons.1 hp with rfl | hp
  ·simp
  ·rcases List.mem_cons.1 hp with rfl | hp
   ·simp
   ·have := hm.lt (h0.sub.mem (List.mem_append_left _ hp)); omega)
 have cJx : ∀ k, Closed (Jx k) := fun k => closed_of (X := fun i : Code × ι => St i.1 i.2) (O := fun i => ((w.heap.size + 1, .loop (rec .done (some i.1))) :: (w.heap.size, .deferred (some [])) :: K)) (M := fun i => M i.2) (fun b hb => hB b (by omega)) (fun i _ p hp => by
  rcases List.mem_cons.1 hp with rfl | hp
  ·simp
  ·rcases List.mem_cons.1 hp with rfl | hp
   ·simp
   ·have := hm.lt (h0.sub.mem (List.mem_append_left _ hp)); omega)
 have hRok : ∀ {i : ι} {A : World}, SatW w0 D noJ (((w.heap.size + 1, .loop (rec .ready none)) :: (w.heap.size, .deferred (some [])) :: K) ++ M i) A -> ∀ b, R b -> b < A.heap.size /\ b ≠ w.heap.size + 1 /\ b ∉ (M i).map (·.1) := fun {i A} h b hb => by
  rcases hR b hb with hd | hk
  ·have h1 := h.notIn hd
   refine ⟨Nat.lt_of_lt_of_le (hm.dom _ hd) h.same.size, fun e => ?_, fun e => ?_⟩
   ·subst e; exact h1 (by simp)
   ·exact h1 (by rw [List.map_append]; exact List.mem_append_right _ e)
  ·have hn := h.nodup
   rw [List.map_append, List.nodup_append] at hn
   obtain ⟨p, hp, e⟩ := List.mem_map.1 hk
   have hlt := hm.lt (h0.sub.mem (List.mem_append_left _ hp))
   have hpin := List.mem_cons_of_mem (w.heap.size + 1, Obj.loop (rec .ready none)) (List.mem_cons_of_mem (w.heap.size, Obj.deferred (some [])) hp)
   exact ⟨by have := h.lt (p := p) (List.mem_append_left _ hpin); omega, by omega, fun e2 => hn.2.2 b (List.mem_map.2 ⟨p, hpin, e⟩) b e2 rfl⟩
 refine callsIn_wide.2 ((hit w W1 hm hs1 (w.heap.size + 1) J Jx cJ cJx ?_ ⟨⟨i0, ⟨hk0, hI0⟩, hsat1, fun _ h => h.elim⟩, fun _ h => h.elim, by omega⟩).mono ?_)
 ·rintro k hk S A vs ms hH ⟨⟨i, ⟨rfl, hI⟩, hsat, hSM⟩, hSB, hsz⟩ hSA hms hmn hmS
  have hl : A.heap[w.heap.size + 1]? = some (.loop (rec .ready none)) := (hsat.own _ (List.mem_cons_self)).2
  have hy := run_yield (P := P) (args := ⟨vs⟩) hl (by rw [hrec]; exact hps _ (List.getElem_mem hk) _ _ hH)
  rw [hrec] at hy
  simp only at hy
  have e : (((⟨ps⟩ : Array Tmp).zip ⟨vs⟩).foldl (fun t (x : Tmp × Value) => t.setIfInBounds x.1 x.2) a.tmps) = (ps.zip vs).foldl (fun t (x : Tmp × Value) => t.setIfInBounds x.1 x.2) a.tmps := by simp
  refine ⟨fn, _, assign, body, hy, roundIn_of_wpIn trivial ?_⟩
  have hall : ∀ b, (S b ∨ keys ms b) -> w.heap.size + 2 <= b /\ b ∉ (M i).map (·.1) := fun b hb => ⟨hSB b hb, hSM b hb⟩
  have hmo : ∀ p ∈ ((w.heap.size + 1, Obj.loop (rec .ready none)) :: (w.heap.size, Obj.deferred (some [])) :: K), p.1 < w.heap.size + 2 := fun p hp => by
   rcases List.mem_cons.1 hp with rfl | hp
   ·simp
   ·rcases List.mem_cons.1 hp with rfl | hp
    ·simp
    ·have := hm.lt (h0.sub.mem (List.mem_append_left _ hp)); omega
  have hsat2 : SatW w0 D noJ (((w.heap.size + 1, .loop (rec .ready none)) :: (w.heap.size, .deferred (some [])) :: K) ++ (ms ++ M i)) A := by
   have h1 := hsat.more hmn (fun p hp => ⟨hB _ (by have := (hall p.1 (.inr (List.mem_map.2 ⟨p, hp, rfl⟩))).1; omega), hms p hp, fun h => by
    rw [List.map_append, List.mem_append] at h
    have h2 := hall p.1 (.inr (List.mem_map.2 ⟨p, hp, rfl⟩))
    rcases h with h | h
    ·obtain ⟨q, hq, e⟩ := List.mem_map.1 h
     have := hmo q hq
     omega
    ·exact h2.2 h⟩)
   exact h1.perm (List.perm_append_comm_assoc _ _ _)
  have hmM : ∀ b, b ∉ (M i).map (·.1) -> ¬ keys ms b -> b ∉ (ms ++ M i).map (·.1) := fun b h1 h2 h => by
   rw [List.map_append, List.mem_append] at h
   exact h.elim h2 h1
  have hro := round_okH (P := P) (n := 0) (l := w.heap.size + 1) (rec := rec) (extra := (w.heap.size, .deferred (some [])) :: K) (S := S) (R := R) (k0 := kof i) (m0 := ms ++ M i) (vs := vs) hst hrs hsat2 (zipE_sat (hE.sat ha) hpN)
   (fun b hb => ⟨hSA b (.inl hb), by have := hSB b (.inl hb); omega, hmM b (hSM b (.inl hb)) (fun h => hmS b h hb)⟩) (fun b hb => by
    obtain ⟨h1, h2, h3⟩ := hRok hsat b hb
    refine ⟨h1, h2, hmM b h3 fun h => ?_⟩
    have h4 := hSB b (.inr h)
    rcases hR b hb with hd | hk
    ·have := hm.dom _ hd; have := hm.same.size; simp only at *; omega
    ·obtain ⟨p, hp, e⟩ := List.mem_map.1 hk
     have := hm.lt (h0.sub.mem (List.mem_append_left _ hp)); omega) (round i hI hk vs ms hH)
  rw [<- e] at hro
  refine wpIn_mono hro ?_
  rintro ex a' W' hq
  cases ex with
  | normal =>
   obtain ⟨w2, h1, h2⟩ := hq
   refine ⟨w2, h1, wpIn_mono h2 ?_⟩
   rintro ex a3 W3 hq
   have conv : ∀ {e : Ending} {B : World}, ((e = .returned (.bool true) /\ (∃ j, kof j = kof i + 1 /\ I j /\ SatW w0 D noJ (((w.heap.size + 1, .loop (rec .ready none)) :: (w.heap.size, .deferred (some [])) :: K) ++ M j) B /\ ∀ b, S b -> b ∉ (M j).map (·.1)) /\ Same (fun b => S b ∨ R b) A B) ∨
    (e = .returned (.bool false) /\ ∃ j cd, St cd j /\ SatW w0 D noJ (((w.heap.size + 1, .loop (rec .done (some cd))) :: (w.heap.size, .deferred (some [])) :: K) ++ M j) B /\ ∀ b, S b -> b ∉ (M j).map (·.1))) ->
     (e = .returned (.bool true) /\ J (kof i + 1) S B /\ Same (fun b => S b ∨ R b) A B) ∨ (e = .returned (.bool false) /\ Jx (kof i) S B) := by
    rintro e B (⟨h1, ⟨j, h2, h3, h4, h5⟩, h6⟩ | ⟨h1, j, cd, h3, h4, h5⟩)
    ·exact .inl ⟨h1, ⟨⟨j, ⟨h2, h3⟩, h4, h5⟩, fun b hb => hSB b (.inl hb), Nat.le_trans hsz h6.size⟩, h6⟩
    ·refine .inr ⟨h1, ⟨(cd, j), h3, h4, h5⟩, fun b hb => hSB b (.inl hb), ?_⟩
     have := lt_of_heap (h4.own _ (List.mem_cons_self)).2
     simp only at this; omega
   cases ex with
   | normal => obtain ⟨v, w', h1, h2⟩ := hq; exact ⟨v, w', h1, conv h2⟩
   | ret => obtain ⟨v, w', h1, h2⟩ := hq; exact ⟨v, w', h1, conv h2⟩
   | exit id => obtain ⟨v, w', h1, h2⟩ := hq; exact ⟨v, w', h1, conv h2⟩
   | goto t => obtain ⟨v, w', h1, h2⟩ := hq; exact ⟨v, w', h1, conv h2⟩
   | panic ch => exact hq
   | outgrown => exact hq
  | _ => exact hq
 ·have fin : ∀ {i : ι} {st : LoopState} {pe : Option Code} {W2 : World}, st ≠ .busy -> SatW w0 D noJ (((w.heap.size + 1, .loop (rec st pe)) :: (w.heap.size, .deferred (some [])) :: K) ++ M i) W2 ->
    ∃ W3, (Instr.endLoop (w.heap.size + 1)).run P W2 = .ok (rec st pe).pending W3 /\ SatW w0 D noJ ((w.heap.size, .deferred (some [])) :: (K ++ M i)) W3 := fun {i st pe W2} hst2 h => by
   have hl := (h.own _ (List.mem_cons_self)).2
   simp only at hl
   refine ⟨_, run_endLoop hl (by rw [hst]; exact hst2), ?_⟩
   have hn := h.nodup
   simp only [List.cons_append, List.nil_append, List.map_cons, List.nodup_cons] at hn
   have h2 : SatW w0 D noJ ((w.heap.size, .deferred (some [])) :: (K ++ M i)) W2 := h.mono (List.sublist_cons_self _ _)
   exact h2.sparing (by simp only [List.map_cons]; exact hn.1) (hB _ (by omega)) (Same.putObj _ _ _ fun h => h rfl)
  have hds : SatA N (mark w.heap.size :: ds) env { a with defers := [mark w.heap.size] ++ a.defers } := ⟨ha.size, by show mark _ :: a.defers = _; rw [ha.defers], ha.env⟩
  rintro e W2 ⟨⟨v, rfl⟩, (⟨S, ⟨i, ⟨h1, h2⟩, h3, _⟩, _⟩ | ⟨k, hk, S, ⟨⟨cd, i⟩, h2, h3, _⟩, _⟩)⟩
  ·obtain ⟨W3, r1, r2⟩ := fin (by simp) h3
   rw [hrec] at r1
   exact ⟨none, W3, r1, (done _ i h1 h2).run _ W3 hds r2⟩
  ·obtain ⟨W3, r1, r2⟩ := fin (by simp) h3
   rw [hrec] at r1
   exact ⟨some cd, W3, r1, (stop _ cd i h2).run _ W3 hds r2⟩


/-- a call of yield that hands blocks over -/
theorem l_yieldH {F : Fence} {lp : Nat} {ds : List Deferred} {w0 : World} {D : Nat -> Prop} {J J1 Jx : (Nat -> Prop) -> World -> Prop} [Wide F] {L l : List Oper} {d : Nat} {x : Operand} {args : List Operand} {ats : Array TypeId} {ty : TypeId} {pos : String} {af : Array Edge} {g : Option (Nat × Bool)} {vs : List Value} {ms mem' : List (Nat × Obj)}
  (hF : F = Fence.wide) (hw : wantB L env g = some true) (hd : Nat.blt d N = true) (hx : evOp env x = some (.func (.yield lp) ⟨[]⟩ ⟨[]⟩)) (ha : evOps env args some = some vs) (hp : mem.Perm (ms ++ mem'))
  (c1 : Closed J1) (cx : Closed Jx)
  (hy : ∀ (S : Nat -> Prop) (A : World), J (fun b => S b ∨ keys ms b) A -> (∀ b, S b ∨ keys ms b -> b < A.heap.size) -> (∀ p ∈ ms, A.heap[p.1]? = some p.2) -> (ms.map (·.1)).Nodup -> (∀ b, keys ms b -> ¬ S b) ->
   YieldAt Fence.wide 0 P lp ⟨vs⟩ A fun e B => (e = .returned (.bool true) /\ J1 S B /\ Same (fun b => S b ∨ D b) A B) ∨ (e = .returned (.bool false) /\ Jx S B))
  (k1 : RunL P N ⟨F, 0, ds, w0, D, J1⟩ L l Q ((d, .bool true) :: env) mem')
  (k2 : ∀ W0, RunL P N ⟨F, 0, ds, W0, fun _ => False, Jx⟩ L l Q ((d, .bool false) :: env) []) :
  RunL P N ⟨F, 0, ds, w0, D, J⟩ L (⟨some d, .call ⟨.value x, ⟨args⟩, ats⟩, ty, pos, af, g⟩ :: l) Q env mem :=
 l_run (c := ⟨F, 0, ds, w0, D, J⟩) hw fun a W hA hm0 => by
  subst hF
  have hm := hm0.perm hp
  have h1 := hA.evals ha
  simp only [Option.some.injEq] at h1
  have hk : ∀ b, (keys mem' b ∨ keys ms b) -> keys (ms ++ mem') b := fun b hb => by
   unfold keys at hb ⊢
   rw [List.map_append, List.mem_append]
   exact hb.symm
  have hnd := hm.nodup
  rw [List.map_append, List.nodup_append] at hnd
  obtain ⟨fn, tmps, assign, body, hr, hround⟩ := hy (keys mem') W (hm.closed _ _ _ _ hm.word (Same.refl _ _) fun b hb => .inl (hk b hb)) (fun b hb => by
   obtain ⟨p, hp, e⟩ := List.mem_map.1 (hk b hb)
   have := hm.lt hp; omega) (fun p hp => (hm.own p (List.mem_append_left _ hp)).2) hnd.1 (fun b h1 h2 => hnd.2.2 b h1 b h2 rfl)
  rw [semAt_plain _ rfl, p_yield (hA.eval hx), h1, hr]
  refine ⟨Wide.depth Fence.wide 0, hround.mono ?_⟩
  rintro e B (⟨rfl, hj, hs⟩ | ⟨rfl, hj⟩)
  ·refine k1.run _ _ (hA.put hd _) ⟨hm.same.trans (hs.mono fun b hb => .inr hb), hm.dom, hnd.2.1, fun p hp => ?_, c1, hj⟩
   have ho := hm.own p (List.mem_append_right _ hp)
   exact ⟨ho.1, hs.obj ho.2 (.inl (List.mem_map.2 ⟨p, hp, rfl⟩))⟩
  ·refine (k2 B).run _ _ (hA.put hd _) ⟨Same.refl _ _, fun _ h => h.elim, List.nodup_nil, fun p hp => (by cases hp), cx, cx _ _ _ _ hj (Same.refl _ _) fun b hb => (by cases hb)⟩
end
end Kin
end Go

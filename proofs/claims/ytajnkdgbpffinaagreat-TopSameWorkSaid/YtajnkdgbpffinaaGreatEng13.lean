/- The engine: drawn regions that make memory, the rules. Generic: no program is named here. -/
import Derived.Test.YtajnkdgbpffinaaGreatEng12
set_option linter.unusedSectionVars false
set_option linter.unusedVariables false
set_option linter.unusedSimpArgs false
namespace Go
open Go.RowKit
namespace Kin
section
variable {P : Program} {N : Nat} {c : Cx} {Q : Exit -> Act -> World -> Prop} {env : List (Nat × Value)} {mem : List (Nat × Obj)} {L l : List Oper} [Wide c.F]
 {tt : List (TypeId × TI)} {d : Nat} {ty : TypeId} {pos : String} {af : Array Edge} {g : Option (Nat × Bool)} {dd : Option Tmp}

abbrev Cx.CT (c : Cx) (tl : List (Nat × Obj)) : List (Nat × Obj) -> World -> Prop := fun l W => SatW c.w0 c.D c.J (l ++ tl) W

theorem getD_set_false {listed : Array Bool} {i k : Nat} (h : (listed.setIfInBounds i true).getD k true = false) : k ≠ i /\ listed.getD k true = false := by
 by_cases hk : i = k
 ·subst hk
  rcases Nat.lt_or_ge i listed.size with h' | h'
  ·simp [h'] at h
  ·simp [h'] at h
 ·rw [getD_set_ne true hk] at h
  exact ⟨fun e => hk e.symm, h⟩

theorem alloc_inj {W : World} {o o' : Obj} (h : W.alloc o = W.alloc o') : o = o' := by
 have h1 := World.alloc_heap_new W o
 rw [h, World.alloc_heap_new W o'] at h1
 exact (Option.some.inj h1).symm

theorem SatW.fresh {w0 : World} {D : Nat -> Prop} {J : (Nat -> Prop) -> World -> Prop} {mem : List (Nat × Obj)} {W W' : World} (hm : SatW w0 D J mem W) (h2 : Under W.heap.size W W') {b : Nat} {o : Obj} (h3 : W.heap.size <= b) (h4 : W'.heap[b]? = some o) : SatW w0 D J ((b, o) :: mem) W' := by
 have hm2 := hm.later h2
 refine ⟨hm2.same, hm2.dom, ?_, ?_, hm.closed, hm.closed _ _ _ _ hm.word (Same.of_below_all h2) fun b' hb => ?_⟩
 ·simp only [List.map_cons, List.nodup_cons]
  refine ⟨fun hmm => ?_, hm2.nodup⟩
  obtain ⟨p, hp, e⟩ := List.mem_map.1 hmm
  have := hm.lt hp
  omega
 ·intro p hp
  rcases List.mem_cons.1 hp with rfl | hp
  ·exact ⟨fun hdd => by have := hm.dom _ hdd; have := hm.same.size; simp only at *; omega, h4⟩
  ·exact hm2.own p hp
 ·simp only [keys, List.map_cons, List.mem_cons] at hb
  rcases hb with rfl | hb
  ·exact .inr h3
  ·exact .inl hb
theorem wpAny_of_B {ops : Array Oper} {kt : Kt} {wr : Nat -> Nat -> Bool} {tl : List (Nat × Obj)} {Lq : Act -> OM -> Prop} (hL : ∀ a m W, Lq a m -> SatW c.w0 c.D c.J (flatO m ++ tl) W -> Q .normal a W) :
  ∀ (f : Nat) (listed : Array Bool) (a : Act) (m : OM) (W : World), SatW c.w0 c.D c.J (flatO m ++ tl) W -> ∀ (B : (Nat -> Pi) -> Prop), (∃ β, B β) ->
   (∀ β, B β -> ∀ i, listed.getD i true = false -> ∀ π, B (fun j => if j = i then π else β j)) -> (∀ β, B β -> gAnyO P ops (c.CT tl) kt wr β Lq f listed a m) -> wpAnyIn c.F c.n P .any ops Q f listed a W
 | 0, listed, a, m, W, hm, B, ⟨β, hβ⟩, _, H => ⟨(H β hβ).1, hL _ _ _ (H β hβ).2 hm⟩
 | f + 1, listed, a, m, W, hm, B, ⟨β0, hβ0⟩, hcl, H => by
  have H0 := H β0 hβ0
  refine ⟨fun h0 => absurd h0 H0.1, fun i hi => ?_⟩
  obtain ⟨hun, o, ho, _⟩ := mem_ready.1 hi
  obtain ⟨v0, δ0, e0, g0⟩ := H0.2 i hi o ho
  have hcl' : ∀ β, B β -> ∀ k, (listed.setIfInBounds i true).getD k true = false -> ∀ π, B (fun j => if j = k then π else β j) := fun β hβ k hk π => hcl β hβ k (getD_set_false hk).2 π
  have hkeep : c.CT tl (keepO (wr i) 0 m) W := hm.mono ((keepO_sub _ _ _).append_right tl)
  unfold wpOpIn
  simp only [ho]
  cases e0 with
  | skip w0 =>
   rw [if_neg (by rw [w0]; exact Bool.false_ne_true)]
   refine ⟨fun f _ => Wide.fn c.F f, wpAny_of_B (kt := kt) (wr := wr) hL f _ _ m _ hm B ⟨β0, hβ0⟩ hcl' fun β hβ => ?_⟩
   obtain ⟨v, δ, e, g⟩ := (H β hβ).2 i hi o ho
   cases e with
   | skip w1 => exact g
   | cal k1 w1 => rw [w0] at w1; cases w1
   | calA k1 w1 => rw [w0] at w1; cases w1
   | calO k1 w1 => rw [w0] at w1; cases w1
   | calL k1 w1 => rw [w0] at w1; cases w1
   | calW k1 w1 => rw [w0] at w1; cases w1
   | val k1 w1 => rw [w0] at w1; cases w1
   | sto k1 w1 => rw [w0] at w1; cases w1
   | upd k1 w1 => rw [w0] at w1; cases w1
   | new k1 w1 => rw [w0] at w1; cases w1
   | app k1 w1 => rw [w0] at w1; cases w1
  | val k0 w0 p0 r0 =>
   rw [if_pos w0]
   refine ⟨fun f _ => Wide.fn c.F f, ?_⟩
   rw [semAt_plain _ p0, r0 W hkeep]
   refine wpAny_of_B (kt := kt) (wr := wr) hL f _ _ m _ hm B ⟨β0, hβ0⟩ hcl' fun β hβ => ?_
   obtain ⟨v, δ, e, g⟩ := (H β hβ).2 i hi o ho
   cases e with
   | skip w1 => rw [w0] at w1; cases w1
   | cal k1 => rw [k0] at k1; cases k1
   | calA k1 => rw [k0] at k1; cases k1
   | calO k1 => rw [k0] at k1; cases k1
   | calL k1 => rw [k0] at k1; cases k1
   | calW k1 => rw [k0] at k1; cases k1
   | val k1 w1 p1 r1 =>
    have := (r0 W hkeep).symm.trans (r1 W hkeep)
    simp only [Result.ok.injEq, Next.value.injEq, and_true] at this
    rw [this]; exact g
   | sto k1 => rw [k0] at k1; cases k1
   | upd k1 => rw [k0] at k1; cases k1
   | new k1 => rw [k0] at k1; cases k1
   | app k1 => rw [k0] at k1; cases k1
  | cal k0 w0 p0 r0 =>
   rw [if_pos w0]
   refine ⟨fun f _ => Wide.fn c.F f, ?_⟩
   obtain ⟨r1, r2⟩ := r0 W hkeep
   rw [semAt_plain _ p0, r1]
   refine ⟨Wide.depth c.F c.n, (Wide.calls (F := c.F) r2).mono ?_⟩
   rintro e' W' ⟨rfl, hb⟩
   refine wpAny_of_B (kt := kt) (wr := wr) hL f _ _ m _ (hm.later hb) B ⟨β0, hβ0⟩ hcl' fun β hβ => ?_
   obtain ⟨v, δ, e, g⟩ := (H β hβ).2 i hi o ho
   cases e with
   | skip w1 => rw [w0] at w1; cases w1
   | val k1 => rw [k0] at k1; cases k1
   | sto k1 => rw [k0] at k1; cases k1
   | upd k1 => rw [k0] at k1; cases k1
   | new k1 => rw [k0] at k1; cases k1
   | app k1 => rw [k0] at k1; cases k1
   | calA k1 => rw [k0] at k1; cases k1
   | calO k1 => rw [k0] at k1; cases k1
   | calL k1 => rw [k0] at k1; cases k1
   | calW k1 => rw [k0] at k1; cases k1
   | cal k1 w1 p1 r1 =>
    rw [k0] at k1
    simp only [Option.some.injEq, Kd.cal.injEq] at k1
    subst k1
    exact g
  | calA k0 w0 p0 h20 z0 x0 n0 r0 =>
   rename_i p sz n xs e f vs
   rw [if_pos w0]
   refine ⟨fun f _ => Wide.fn c.F f, ?_⟩
   obtain ⟨r1, r2⟩ := r0 W hkeep
   rw [semAt_plain _ p0, r1]
   refine ⟨Wide.depth c.F c.n, (Wide.calls (F := c.F) r2).mono ?_⟩
   rintro e' W' ⟨b, cap, rest, rfl, g2, hb, hge, g3⟩
   obtain ⟨gc, gr⟩ := growF g2 z0
   refine wpAny_of_B (kt := kt) (wr := wr) hL _ _ _ (m.set p (some (b, .cells ⟨xs ++ rest⟩ e (0, 0)))) _ ((hm.fresh hb hge g3).perm ((perm_set h20).append_right tl)) (fun β => B β /\ β i = ⟨b, rest, [], []⟩) ⟨fun j => if j = i then ⟨b, rest, [], []⟩ else β0 j, hcl β0 hβ0 i hun _, by simp⟩
    (fun β hβ k hk π => ⟨hcl' β hβ.1 k hk π, by simp only; rw [if_neg (Ne.symm (getD_set_false hk).1)]; exact hβ.2⟩) fun β hβ => ?_
   obtain ⟨v, δ, e', g⟩ := (H β hβ.1).2 i hi o ho
   cases e' with
   | skip w1 => rw [w0] at w1; cases w1
   | cal k1 => rw [k0] at k1; cases k1
   | val k1 => rw [k0] at k1; cases k1
   | sto k1 => rw [k0] at k1; cases k1
   | upd k1 => rw [k0] at k1; cases k1
   | new k1 => rw [k0] at k1; cases k1
   | app k1 => rw [k0] at k1; cases k1
   | calO k1 => rw [k0] at k1; cases k1
   | calL k1 => rw [k0] at k1; cases k1
   | calW k1 => rw [k0] at k1; cases k1
   | calA k1 =>
    rw [k0] at k1
    simp only [Option.some.injEq, Kd.calA.injEq] at k1
    obtain ⟨rfl, rfl, rfl, rfl, rfl⟩ := k1
    rw [hβ.2] at g
    simp only [gc, gr] at g
    exact g
  | calO k0 w0 p0 h20 r0 =>
   rename_i p V ob f vs
   rw [if_pos w0]
   refine ⟨fun f _ => Wide.fn c.F f, ?_⟩
   obtain ⟨r1, r2⟩ := r0 W hkeep
   rw [semAt_plain _ p0, r1]
   refine ⟨Wide.depth c.F c.n, (Wide.calls (F := c.F) r2).mono ?_⟩
   rintro e' W' ⟨b, rfl, hb, hge, g3⟩
   refine wpAny_of_B (kt := kt) (wr := wr) hL _ _ _ (m.set p (some (b, ob))) _ ((hm.fresh hb hge g3).perm ((perm_set h20).append_right tl)) (fun β => B β /\ β i = ⟨b, [], [], []⟩) ⟨fun j => if j = i then ⟨b, [], [], []⟩ else β0 j, hcl β0 hβ0 i hun _, by simp⟩
    (fun β hβ k hk π => ⟨hcl' β hβ.1 k hk π, by simp only; rw [if_neg (Ne.symm (getD_set_false hk).1)]; exact hβ.2⟩) fun β hβ => ?_
   obtain ⟨v, δ, e', g⟩ := (H β hβ.1).2 i hi o ho
   cases e' with
   | skip w1 => rw [w0] at w1; cases w1
   | cal k1 => rw [k0] at k1; cases k1
   | calA k1 => rw [k0] at k1; cases k1
   | val k1 => rw [k0] at k1; cases k1
   | sto k1 => rw [k0] at k1; cases k1
   | upd k1 => rw [k0] at k1; cases k1
   | new k1 => rw [k0] at k1; cases k1
   | app k1 => rw [k0] at k1; cases k1
   | calL k1 => rw [k0] at k1; cases k1
   | calW k1 => rw [k0] at k1; cases k1
   | calO k1 =>
    rw [k0] at k1
    simp only [Option.some.injEq, Kd.calO.injEq] at k1
    obtain ⟨rfl, rfl, rfl⟩ := k1
    rw [hβ.2] at g
    exact g
  | calL k0 w0 p0 h20 n0 l0 r0 =>
   rename_i ps V O f vs
   rw [if_pos w0]
   refine ⟨fun f _ => Wide.fn c.F f, ?_⟩
   obtain ⟨r1, r2⟩ := r0 W hkeep
   rw [semAt_plain _ p0, r1]
   refine ⟨Wide.depth c.F c.n, (Wide.calls (F := c.F) r2).mono ?_⟩
   rintro e' W' ⟨π, rfl, hC⟩
   have hm' : SatW c.w0 c.D c.J (flatO (setAll m (List.zipWith (fun p x => (p, some x)) ps (O vs π))) ++ tl) W' := by
    have h1 : SatW c.w0 c.D c.J ((O vs π ++ flatO m) ++ tl) W' := hC (flatO m) hm
    exact h1.perm ((perm_setL h20 n0 (l0 π)).append_right tl)
   refine wpAny_of_B (kt := kt) (wr := wr) hL _ _ _ _ _ hm' (fun β => B β /\ β i = π) ⟨fun j => if j = i then π else β0 j, hcl β0 hβ0 i hun _, by simp⟩
    (fun β hβ k hk π' => ⟨hcl' β hβ.1 k hk π', by simp only; rw [if_neg (Ne.symm (getD_set_false hk).1)]; exact hβ.2⟩) fun β hβ => ?_
   obtain ⟨v, δ, e', g⟩ := (H β hβ.1).2 i hi o ho
   cases e' with
   | skip w1 => rw [w0] at w1; cases w1
   | cal k1 => rw [k0] at k1; cases k1
   | calA k1 => rw [k0] at k1; cases k1
   | calO k1 => rw [k0] at k1; cases k1
   | val k1 => rw [k0] at k1; cases k1
   | sto k1 => rw [k0] at k1; cases k1
   | upd k1 => rw [k0] at k1; cases k1
   | new k1 => rw [k0] at k1; cases k1
   | app k1 => rw [k0] at k1; cases k1
   | calW k1 => rw [k0] at k1; cases k1
   | calL k1 w1 p1 h21 n1 l1 r3 =>
    rw [k0] at k1
    simp only [Option.some.injEq, Kd.calL.injEq] at k1
    obtain ⟨rfl, rfl, rfl⟩ := k1
    have h5 := r1.symm.trans (r3 W hkeep).1
    simp only [Result.ok.injEq, Next.enter.injEq, and_true] at h5
    obtain ⟨rfl, rfl⟩ := h5
    rw [hβ.2] at g
    exact g
  | calW k0 w0 p0 h20 r0 =>
   rename_i p b ob V O f vs
   rw [if_pos w0]
   refine ⟨fun f _ => Wide.fn c.F f, ?_⟩
   have hlt := (List.getElem?_eq_some_iff.1 h20).1
   have e1 : (m.set p none)[p]? = some none := List.getElem?_set_self hlt
   have p1 := perm_set (x := (b, ob)) e1
   rw [List.set_set, show m.set p (some (b, ob)) = m from by
    apply List.ext_getElem?
    intro j
    by_cases hj : p = j
    ·subst hj; rw [List.getElem?_set_self hlt, h20]
    ·rw [List.getElem?_set_ne hj]] at p1
   have hm1 := hm.perm (p1.symm.append_right tl)
   have hb : W.heap[b]? = some ob := (hm1.own (b, ob) List.mem_cons_self).2
   obtain ⟨r1, r2⟩ := r0 W hkeep hb
   rw [semAt_plain _ p0, r1]
   refine ⟨Wide.depth c.F c.n, (Wide.calls (F := c.F) r2).mono ?_⟩
   rintro e' W' ⟨π, rfl, hC⟩
   have hm' : SatW c.w0 c.D c.J (flatO (m.set p (some (b, O vs π))) ++ tl) W' := by
    have h1 : SatW c.w0 c.D c.J (((b, O vs π) :: flatO (m.set p none)) ++ tl) W' := hC _ hm1
    have p2 := perm_set (x := (b, O vs π)) e1
    rw [List.set_set] at p2
    exact h1.perm (p2.append_right tl)
   refine wpAny_of_B (kt := kt) (wr := wr) hL _ _ _ _ _ hm' (fun β => B β /\ β i = π) ⟨fun j => if j = i then π else β0 j, hcl β0 hβ0 i hun _, by simp⟩
    (fun β hβ k hk π' => ⟨hcl' β hβ.1 k hk π', by simp only; rw [if_neg (Ne.symm (getD_set_false hk).1)]; exact hβ.2⟩) fun β hβ => ?_
   obtain ⟨v, δ, e', g⟩ := (H β hβ.1).2 i hi o ho
   cases e' with
   | skip w1 => rw [w0] at w1; cases w1
   | cal k1 => rw [k0] at k1; cases k1
   | calA k1 => rw [k0] at k1; cases k1
   | calO k1 => rw [k0] at k1; cases k1
   | calL k1 => rw [k0] at k1; cases k1
   | val k1 => rw [k0] at k1; cases k1
   | sto k1 => rw [k0] at k1; cases k1
   | upd k1 => rw [k0] at k1; cases k1
   | new k1 => rw [k0] at k1; cases k1
   | app k1 => rw [k0] at k1; cases k1
   | calW k1 w1 p1 h21 r3 =>
    rw [k0] at k1
    simp only [Option.some.injEq, Kd.calW.injEq] at k1
    obtain ⟨rfl, rfl, rfl⟩ := k1
    rw [h20] at h21
    simp only [Option.some.injEq, Prod.mk.injEq] at h21
    obtain ⟨rfl, rfl⟩ := h21
    have h5 := r1.symm.trans (r3 W hkeep hb).1
    simp only [Result.ok.injEq, Next.enter.injEq, and_true] at h5
    obtain ⟨rfl, rfl⟩ := h5
    rw [hβ.2] at g
    exact g
  | sto k0 w0 p0 h20 h30 r0 =>
   rename_i p ff b cs vs T
   rw [if_pos w0]
   refine ⟨fun f _ => Wide.fn c.F f, ?_⟩
   have hu := upd_setO (o' := .cells ⟨splice cs ff vs⟩ T (0, 0)) (tl := tl) h20
   have hb := (hm.own _ hu.isIn).2
   rw [semAt_plain _ p0, r0 W hb]
   refine wpAny_of_B (kt := kt) (wr := wr) hL f _ _ (m.set p (some (b, .cells ⟨splice cs ff vs⟩ T (0, 0)))) _ (hm.put hu) B ⟨β0, hβ0⟩ hcl' fun β hβ => ?_
   obtain ⟨v, δ, e, g⟩ := (H β hβ).2 i hi o ho
   cases e with
   | skip w1 => rw [w0] at w1; cases w1
   | cal k1 => rw [k0] at k1; cases k1
   | calA k1 => rw [k0] at k1; cases k1
   | calO k1 => rw [k0] at k1; cases k1
   | calL k1 => rw [k0] at k1; cases k1
   | calW k1 => rw [k0] at k1; cases k1
   | val k1 => rw [k0] at k1; cases k1
   | new k1 => rw [k0] at k1; cases k1
   | app k1 => rw [k0] at k1; cases k1
   | upd k1 => rw [k0] at k1; cases k1
   | sto k1 w1 p1 h21 h31 r1 =>
    rename_i p' ff' b' cs' vs' T'
    rw [k0] at k1
    simp only [Option.some.injEq, Kd.sto.injEq] at k1
    obtain ⟨rfl, rfl, _⟩ := k1
    rw [h20] at h21
    simp only [Option.some.injEq, Prod.mk.injEq, Obj.cells.injEq, Array.mk.injEq, and_true] at h21
    obtain ⟨rfl, rfl, rfl⟩ := h21
    have h5 := (r0 W hb).symm.trans (r1 W hb)
    simp only [Result.ok.injEq, true_and] at h5
    have h6 := setRow_heap W b ⟨cs⟩ (splice cs ff vs).toArray T _ hb
    rw [h5, setRow_heap W b ⟨cs⟩ (splice cs ff vs').toArray T _ hb] at h6
    simp only [Option.some.injEq, Obj.cells.injEq, and_true] at h6
    have h7 : splice cs ff vs' = splice cs ff vs := by simpa using congrArg Array.toList h6
    rw [h7] at g
    exact g
  | upd k0 w0 p0 h20 hv0 r0 =>
   rename_i p b ob ob' nx0
   rw [if_pos w0]
   refine ⟨fun f _ => Wide.fn c.F f, ?_⟩
   have hu := upd_setO (o' := ob') (tl := tl) h20
   have hb := (hm.own _ hu.isIn).2
   rw [semAt_plain _ p0, r0 W hb, hv0.upon]
   refine wpAny_of_B (kt := kt) (wr := wr) hL f _ _ (m.set p (some (b, ob'))) _ (hm.upd hu (Same.putObj _ _ _ fun h => h rfl) (World.putObj_heap_same (lt_of_heap hb))) B ⟨β0, hβ0⟩ hcl' fun β hβ => ?_
   obtain ⟨v, δ, e, g⟩ := (H β hβ).2 i hi o ho
   cases e with
   | skip w1 => rw [w0] at w1; cases w1
   | cal k1 => rw [k0] at k1; cases k1
   | calA k1 => rw [k0] at k1; cases k1
   | calO k1 => rw [k0] at k1; cases k1
   | calL k1 => rw [k0] at k1; cases k1
   | calW k1 => rw [k0] at k1; cases k1
   | val k1 => rw [k0] at k1; cases k1
   | new k1 => rw [k0] at k1; cases k1
   | app k1 => rw [k0] at k1; cases k1
   | sto k1 => rw [k0] at k1; cases k1
   | upd k1 w1 p1 h21 hv1 r1 =>
    rename_i p' b' ob1 ob2 nx1
    rw [k0] at k1
    simp only [Option.some.injEq, Kd.upd.injEq] at k1
    subst k1
    rw [h20] at h21
    simp only [Option.some.injEq, Prod.mk.injEq] at h21
    obtain ⟨rfl, rfl⟩ := h21
    have h5 := (r0 W hb).symm.trans (r1 W hb)
    simp only [Result.ok.injEq] at h5
    obtain ⟨h50, h5⟩ := h5
    subst h50
    have hvv := hv0.det hv1
    subst hvv
    have h6 := World.putObj_heap_same (o := ob') (lt_of_heap hb)
    rw [h5, World.putObj_heap_same (lt_of_heap hb)] at h6
    simp only [Option.some.injEq] at h6
    rw [h6] at g
    exact g
  | new k0 w0 p0 h20 r0 =>
   rename_i p V ob
   rw [if_pos w0]
   refine ⟨fun f _ => Wide.fn c.F f, ?_⟩
   rw [semAt_plain _ p0, r0 W hkeep]
   refine wpAny_of_B (kt := kt) (wr := wr) hL f _ _ (m.set p (some (W.heap.size, ob))) _ ((hm.alloc ob).perm ((perm_set h20).append_right tl)) (fun β => B β /\ (β i).b = W.heap.size) ⟨fun j => if j = i then ⟨W.heap.size, [], [], []⟩ else β0 j, hcl β0 hβ0 i hun _, by simp⟩
    (fun β hβ k hk π => ⟨hcl' β hβ.1 k hk π, by simp only; rw [if_neg (Ne.symm (getD_set_false hk).1)]; exact hβ.2⟩) fun β hβ => ?_
   obtain ⟨v, δ, e, g⟩ := (H β hβ.1).2 i hi o ho
   cases e with
   | skip w1 => rw [w0] at w1; cases w1
   | cal k1 => rw [k0] at k1; cases k1
   | calA k1 => rw [k0] at k1; cases k1
   | calO k1 => rw [k0] at k1; cases k1
   | calL k1 => rw [k0] at k1; cases k1
   | calW k1 => rw [k0] at k1; cases k1
   | val k1 => rw [k0] at k1; cases k1
   | sto k1 => rw [k0] at k1; cases k1
   | upd k1 => rw [k0] at k1; cases k1
   | app k1 => rw [k0] at k1; cases k1
   | new k1 w1 p1 h21 r1 =>
    rename_i p' V' ob'
    rw [k0] at k1
    simp only [Option.some.injEq, Kd.new.injEq] at k1
    subst k1
    have h5 := (r0 W hkeep).symm.trans (r1 W hkeep)
    simp only [Result.ok.injEq, Next.value.injEq] at h5
    have h6 := alloc_inj h5.2
    subst h6
    rw [hβ.2, <- h5.1] at g
    exact g
  | app k0 w0 p0 h20 z0 x0 n0 q0 r0 =>
   rename_i p sz n q xs e
   rw [if_pos w0]
   refine ⟨fun f _ => Wide.fn c.F f, ?_⟩
   obtain ⟨b, cap, rest, W', g1, g2, g3, g4⟩ := r0 W hkeep
   obtain ⟨gc, gr⟩ := growF g2 z0
   rw [semAt_plain _ p0, g1]
   have hsat : SatW c.w0 c.D c.J (flatO (setAll m (q.toList.map (fun q' => (q', none)) ++ [(p, some (b, .cells ⟨xs ++ rest⟩ e (0, 0)))])) ++ tl) W' := by
    rcases g4 with ⟨q', o', rfl, h2, h3⟩ | ⟨hb, hW'⟩
    ·have hqp := q0 q' rfl
     have hlt := (List.getElem?_eq_some_iff.1 h2).1
     have s1 := hm.upd (upd_setO (o' := .cells ⟨xs ++ rest⟩ e (0, 0)) (tl := tl) h2) h3 g3
     have e1 : (m.set q' none)[q']? = some none := List.getElem?_set_self hlt
     have e2 : (m.set q' none)[p]? = some none := by rw [List.getElem?_set_ne hqp]; exact h20
     have p1 := perm_set (x := (b, .cells ⟨xs ++ rest⟩ e (0, 0))) e1
     have p2 := perm_set (x := (b, .cells ⟨xs ++ rest⟩ e (0, 0))) e2
     rw [List.set_set] at p1
     exact s1.perm ((p1.symm.trans p2).append_right tl)
    ·subst hW'
     have s1 := hm.newest (.cells ⟨xs ++ rest⟩ e (0, 0))
     rw [<- hb] at s1
     cases q with
     | none => exact s1.perm ((perm_set h20).append_right tl)
     | some q' =>
      have hqp := q0 q' rfl
      have e2 : (m.set q' none)[p]? = some none := by rw [List.getElem?_set_ne hqp]; exact h20
      have s2 := s1.mono (mem' := (b, .cells ⟨xs ++ rest⟩ e (0, 0)) :: (flatO (m.set q' none) ++ tl)) ((sub_set.append_right tl).cons_cons _)
      exact s2.perm ((perm_set e2).append_right tl)
   refine wpAny_of_B (kt := kt) (wr := wr) hL f _ _ _ _ hsat (fun β => B β /\ β i = ⟨b, rest, [], []⟩) ⟨fun j => if j = i then ⟨b, rest, [], []⟩ else β0 j, hcl β0 hβ0 i hun _, by simp⟩
    (fun β hβ k hk π => ⟨hcl' β hβ.1 k hk π, by simp only; rw [if_neg (Ne.symm (getD_set_false hk).1)]; exact hβ.2⟩) fun β hβ => ?_
   obtain ⟨v, δ, e', g⟩ := (H β hβ.1).2 i hi o ho
   cases e' with
   | skip w1 => rw [w0] at w1; cases w1
   | cal k1 => rw [k0] at k1; cases k1
   | calA k1 => rw [k0] at k1; cases k1
   | calO k1 => rw [k0] at k1; cases k1
   | calL k1 => rw [k0] at k1; cases k1
   | calW k1 => rw [k0] at k1; cases k1
   | val k1 => rw [k0] at k1; cases k1
   | sto k1 => rw [k0] at k1; cases k1
   | upd k1 => rw [k0] at k1; cases k1
   | new k1 => rw [k0] at k1; cases k1
   | app k1 w1 p1 h21 z1 x1 n1 q1 r1 =>
    rename_i p' sz' n' q' xs' e'
    rw [k0] at k1
    simp only [Option.some.injEq, Kd.app.injEq] at k1
    obtain ⟨rfl, rfl, rfl⟩ := k1
    obtain ⟨b', cap', rest', W'', f1, f2, f3, f4⟩ := r1 W hkeep
    have h5 := g1.symm.trans f1
    simp only [Result.ok.injEq, Next.value.injEq, Value.slice.injEq, Option.some.injEq, Addr.mk.injEq, and_true, true_and] at h5
    obtain ⟨⟨rfl, rfl, rfl⟩, rfl⟩ := h5
    rw [g3] at f3
    simp only [Option.some.injEq, Obj.cells.injEq, Array.mk.injEq, and_true] at f3
    obtain ⟨f3, rfl⟩ := f3
    have h6 := (List.append_inj f3 (by rw [x0, x1])).1
    subst h6
    rw [hβ.2] at g
    simp only [gc, gr] at g
    exact g

/-! ## The rules -/
/-- a drawn region that reads, stores and makes memory, in the order of the text -/
structure RunE (P : Program) (N : Nat) (c : Cx) (L : List Oper) (kt : Kt) (rd : List (Nat × Nat)) (tl : List (Nat × Obj)) (l : List Oper) (k : Nat) (Q : Exit -> Act -> World -> Prop) (env : List (Nat × Value)) (fr : OM) : Prop where
 run : ∀ (β : Nat -> Pi) a, SatA N c.ds env a -> (rd.all fun r => !wrS (ancs .any L.toArray) (shOf kt) r.1 r.2) = true ->
  gSeqO P L.toArray (c.CT tl) kt (wrS (ancs .any L.toArray) (shOf kt)) β (fun a' m' => ∀ W, SatW c.w0 c.D c.J (flatO m' ++ tl) W -> Q .normal a' W) l k a fr

def gB1 (L : List Oper) (sh : Sh) (rd : List (Nat × Nat)) : Bool := Region.lexB .any L.toArray && apartS (ancs .any L.toArray) sh && rd.all fun r => !wrS (ancs .any L.toArray) sh r.1 r.2

/-- the first `K` blocks in places, and `nw` places for new ones -/
def nonesK {γ : Type} : Nat -> (OM -> Option γ) -> Option γ
 | 0, k => k []
 | n + 1, k => nonesK n fun fr => k (none :: fr)
def placeK {γ : Type} (n : Nat) : Nat -> List (Nat × Obj) -> (OM -> List (Nat × Obj) -> Option γ) -> Option γ
 | 0, m, k => nonesK n fun fr => k fr m
 | _ + 1, [], _ => none
 | K + 1, x :: m, k => placeK n K m fun fr tl => k (some x :: fr) tl
theorem nonesK_eq {γ : Type} {n : Nat} {k : OM -> Option γ} {r : γ} (h : nonesK n k = some r) : ∃ fr, flatO fr = [] /\ k fr = some r := by
 induction n generalizing k with
 | zero => exact ⟨[], rfl, h⟩
 | succ n ih =>
  obtain ⟨fr, h1, h2⟩ := ih h
  exact ⟨none :: fr, h1, h2⟩
theorem placeK_eq {γ : Type} {K n : Nat} {m : List (Nat × Obj)} {k : OM -> List (Nat × Obj) -> Option γ} {r : γ} (h : placeK n K m k = some r) : ∃ fr tl, flatO fr ++ tl = m /\ k fr tl = some r := by
 induction K generalizing m k with
 | zero =>
  obtain ⟨fr, h1, h2⟩ := nonesK_eq h
  exact ⟨fr, m, by rw [h1]; rfl, h2⟩
 | succ K ih =>
  cases m with
  | nil => cases h
  | cons x m =>
   obtain ⟨fr, tl, h1, h2⟩ := ih h
   exact ⟨some x :: fr, tl, by rw [<- h1]; rfl, h2⟩

theorem c_new [M : Mixed P] {id : Nat} (K nw : Nat) (kt : Kt) (sh : Sh) (rd : List (Nat × Nat)) {fr : OM} {tl : List (Nat × Obj)} (hsh : shOf kt = sh) (hB : gB1 L sh rd = true) (hp : placeK nw K mem (fun fr tl => some (fr, tl)) = some (fr, tl)) (k : RunE P N c L kt rd tl L 0 Q env fr) :
  RunC P N c (.region id L.toArray true) Q env mem := .mk fun a W ha hm => by
 subst hsh
 obtain ⟨fr', tl', h1, h2⟩ := placeK_eq hp
 simp only [Option.some.injEq, Prod.mk.injEq] at h2
 obtain ⟨rfl, rfl⟩ := h2
 subst h1
 simp only [gB1, Region.lexB, Bool.and_eq_true] at hB
 obtain ⟨⟨⟨h1, h2⟩, h3⟩, h4⟩ := hB
 refine wpIn_region_any M.ok ?_
 have := wpAny_of_B (P := P) (c := c) (Q := Q) (ops := L.toArray) (kt := kt) (wr := wrS (ancs .any L.toArray) (shOf kt)) (Lq := fun a' m' => ∀ W, SatW c.w0 c.D c.J (flatO m' ++ tl') W -> Q .normal a' W) (fun a m W h hm => h W hm)
  L.length (Array.replicate L.toArray.size false) a fr' _ hm.drew (fun _ => True) ⟨fun _ => ⟨0, [], [], []⟩, trivial⟩ (fun _ _ _ _ _ => trivial)
  (fun β _ => gAnyO_lex h1 h3 L 0 _ a fr' (fun j oj _ hl => by rw [getD_replicate_false] at hl; cases hl) (by simp) (by simpa using h2) (k.run β a ha h4))
 simpa using this

variable {kt : Kt} {rd : List (Nat × Nat)} {tl : List (Nat × Obj)} {fr : OM}
/-- the places that an operation may not read: those that are written, but for those that are named -/
def rowS (sh : Sh) (rd : List (Nat × Nat)) (i p : Nat) : Bool := sh.any (fun s => s.2.contains p) && !(rd.any fun r => r.1 == i && r.2 == p)
theorem rowS_ok {an : List Nat} {sh : Sh} {rd : List (Nat × Nat)} (h : (rd.all fun r => !wrS an sh r.1 r.2) = true) {i p : Nat} (hr : rowS sh rd i p = false) : wrS an sh i p = false := by
 unfold rowS at hr
 rw [Bool.and_eq_false_iff] at hr
 rcases hr with hr | hr
 ·cases hw : wrS an sh i p with
  | false => rfl
  | true =>
   unfold wrS at hw
   obtain ⟨s, hs, h2⟩ := List.any_eq_true.1 hw
   simp only [Bool.and_eq_true] at h2
   have : sh.any (fun s => s.2.contains p) = true := List.any_eq_true.2 ⟨s, hs, h2.1.1.1⟩
   rw [hr] at this; cases this
 ·have : (rd.any fun r => r.1 == i && r.2 == p) = true := by simpa using hr
  obtain ⟨r, hm, h2⟩ := List.any_eq_true.1 this
  simp only [Bool.and_eq_true, beq_iff_eq] at h2
  obtain ⟨rfl, rfl⟩ := h2
  have := List.all_eq_true.1 h r hm
  simpa using this
def pickO {γ : Type} (f : Nat -> Bool) : Nat -> OM -> List (Nat × Obj) -> (List (Nat × Obj) -> Option γ) -> Option γ
 | _, [], tl, k => k tl
 | j, none :: m, tl, k => pickO f (j + 1) m tl k
 | j, some x :: m, tl, k => bif f j then pickO f (j + 1) m tl k else pickO f (j + 1) m tl fun r => k (x :: r)
theorem pickO_eq {γ : Type} {f g : Nat -> Bool} (hf : ∀ p, g p = false -> f p = false) {m : OM} {tl : List (Nat × Obj)} {j : Nat} {k : List (Nat × Obj) -> Option γ} {r : γ} (h : pickO g j m tl k = some r) : ∃ m', List.Sublist m' (keepO f j m ++ tl) /\ k m' = some r := by
 induction m generalizing j k with
 | nil => exact ⟨tl, List.Sublist.refl _, h⟩
 | cons x m ih =>
  cases x with
  | none => exact ih h
  | some x =>
   simp only [pickO] at h
   cases hg : g j with
   | true =>
    rw [hg] at h
    obtain ⟨m', h1, h2⟩ := ih h
    refine ⟨m', ?_, h2⟩
    simp only [keepO]
    cases f j with
    | true => exact h1
    | false => exact h1.cons _
   | false =>
    rw [hg] at h
    obtain ⟨m', h1, h2⟩ := ih h
    refine ⟨x :: m', ?_, h2⟩
    simp only [keepO, hf j hg, cond_false]
    exact h1.cons_cons _

theorem e_val {k : Nat} {op : Op} {v : Value} {mem' : List (Nat × Obj)} (hw : wantB L env g = some true) (hd : Nat.blt d N = true) (hk : kdOf kt k = none) (hm : pickO (rowS (shOf kt) rd k) 0 fr tl some = some mem')
  (hv : OpVal P N c env mem' ⟨some d, op, ty, pos, af, g⟩ v) (kk : RunE P N c L kt rd tl l (k + 1) Q ((d, v) :: env) fr) : RunE P N c L kt rd tl (⟨some d, op, ty, pos, af, g⟩ :: l) k Q env fr := .mk fun β a ha hr => by
 refine ⟨v, [], .val hk (wanted_of (o := ⟨some d, op, ty, pos, af, g⟩) hw ha) hv.1 (fun W hW => ?_), kk.run β _ (ha.put hd v) hr⟩
 obtain ⟨m', h1, h2⟩ := pickO_eq (f := wrS (ancs .any L.toArray) (shOf kt) k) (fun p hp => rowS_ok hr hp) hm
 simp only [Option.some.injEq] at h2
 subst h2
 exact hv.2 a W ha (hW.mono h1)
/-- The operation lays a new block. -/
structure OpNew (P : Program) (N : Nat) (c : Cx) (env : List (Nat × Value)) (o : Oper) (V : Nat -> Value) (ob : Obj) : Prop where
 plain : plainOp o.op = true
 run : ∀ a W, SatA N c.ds env a -> (execOp a.eval o).run P W = .ok (.value (V W.heap.size)) (W.alloc ob)
theorem e_new {k p : Nat} {op : Op} {V : Nat -> Value} {ob : Obj} (hw : wantB L env g = some true) (hd : Nat.blt d N = true) (hk : kdOf kt k = some (.new p)) (hp : fr[p]? = some none) (hv : OpNew P N c env ⟨some d, op, ty, pos, af, g⟩ V ob)
  (kk : ∀ b, RunE P N c L kt rd tl l (k + 1) Q ((d, V b) :: env) (fr.set p (some (b, ob)))) : RunE P N c L kt rd tl (⟨some d, op, ty, pos, af, g⟩ :: l) k Q env fr := .mk fun β a ha hr =>
 ⟨V (β k).b, _, .new hk (wanted_of (o := ⟨some d, op, ty, pos, af, g⟩) hw ha) hv.1 hp (fun W _ => hv.2 a W ha), (kk (β k).b).run β _ (ha.put hd _) hr⟩

theorem n_buildSlice [T : TT P tt] {t e n sz bt sz' bt' : Nat} {ke : TK} {z z' : Value} {ps : List (Nat × Operand)} {cs : List Value}
  (ht : look tt t = some ⟨.slice e, sz', bt', z'⟩) (hte : look tt e = some ⟨ke, sz, bt, z⟩) (hn : Nat.beq ps.length n = true) (hb : Nat.ble (n * sz) 16777216 = true) (hv : rowsK env sz ps 0 some = some cs) :
  OpNew P N c env ⟨dd, .buildSlice t n ⟨ps⟩, ty, pos, af, g⟩ (fun b => .slice (some ⟨b, 0, none⟩) n n) (.cells ⟨cs⟩ e (0, 0)) := by
 have hn := Nat.eq_of_beq_eq_true hn
 subst hn
 have hu : P.underlying t = some (.slice e) := (TT.look (P := P) ht).1
 obtain ⟨_, inf, hi, hs, _, hz⟩ := TT.look (P := P) hte
 simp only at hs hz
 refine ⟨rfl, fun a W ha => ?_⟩
 obtain ⟨cs', h1, h2, h3⟩ := rowsK_ok ha ps 0 _ _ hv
 simp only [Option.some.injEq] at h1
 subst h1
 have hz2 : (zeroValue e).run P W = .ok z W := by
  simp only [zeroValue, Sem.run_bind, run_info hi, Result.andThen_ok, hz]; rfl
 have hb2 : ¬ ps.length * sz > 2 ^ 24 := by have := Nat.le_of_ble_eq_true hb; omega
 have hfill : ∀ zz : Array Value, Instr.fill (fun i => some (i * sz, sz)) ((Array.range (ps.length * sz)).map (zz[· % zz.size]!)) (ps.map fun p => (p.1, a.eval p.2)) = some ⟨cs'⟩ := fun zz => by
  have := h3 [] ((Array.range (ps.length * sz)).map (zz[· % zz.size]!)).toList (by simp) (by simp)
  rwa [List.nil_append, show (⟨((Array.range (ps.length * sz)).map (zz[· % zz.size]!)).toList⟩ : Array Value) = (Array.range (ps.length * sz)).map (zz[· % zz.size]!) from rfl, List.nil_append] at this
 simp only [execOp, Instr.buildSlice, Sem.run_bind, run_und hu, run_size hi, Result.andThen_ok, hs]
 rw [if_neg hb2]
 have e3 : ((⟨ps⟩ : Array (Nat × Operand)).map fun (x : Nat × Operand) => (x.1, a.eval x.2)).toList = ps.map fun p => (p.1, a.eval p.2) := by simp
 rw [e3]
 by_cases h0 : ps.length * sz = 0
 ·rw [if_pos h0]
  simp only [pure_bind]
  rw [hfill #[]]; rfl
 ·rw [if_neg h0]
  simp only [Sem.run_bind, hz2, Result.andThen_ok]
  rw [show (Sem.run P (pure z.cells : Sem (Array Value)) W) = .ok z.cells W from rfl, Result.andThen_ok, hfill z.cells]; rfl

/-- The operation appends: what comes out are the elements `xs`, in the old block (in the place `q`) or in a new one. -/
structure OpApp (P : Program) (N : Nat) (c : Cx) (env : List (Nat × Value)) (mem : List (Nat × Obj)) (o : Oper) (bq : Option Nat) (sz n : Nat) (xs : List Value) (e : TypeId) : Prop where
 plain : plainOp o.op = true
 run : ∀ a W, SatA N c.ds env a -> SatW c.w0 c.D c.J mem W -> ∃ b cap rest W', (execOp a.eval o).run P W = .ok (.value (.slice (some ⟨b, 0, none⟩) n cap)) W' /\ Grow sz n xs cap rest /\ W'.heap[b]? = some (.cells ⟨xs ++ rest⟩ e (0, 0)) /\
    ((bq = some b /\ Same (fun k => k ≠ b) W W') ∨ (b = W.heap.size /\ W' = W.drew.alloc (.cells ⟨xs ++ rest⟩ e (0, 0))))
def flK {γ : Type} : OM -> List (Nat × Obj) -> (List (Nat × Obj) -> Option γ) -> Option γ
 | [], tl, k => k tl
 | none :: m, tl, k => flK m tl k
 | some x :: m, tl, k => flK m tl fun r => k (x :: r)
theorem flK_eq {γ : Type} {m : OM} {tl : List (Nat × Obj)} {k : List (Nat × Obj) -> Option γ} {r : γ} (h : flK m tl k = some r) : k (flatO m ++ tl) = some r := by
 induction m generalizing k with
 | nil => exact h
 | cons x m ih => cases x with
   | none => exact ih h
   | some x => exact ih h
theorem e_nil {k : Nat} {mem' : List (Nat × Obj)} (hm : flK fr tl some = some mem') (kk : RunX N c Q .normal env mem') : RunE P N c L kt rd tl [] k Q env fr := .mk fun β a ha _ W hW => by
 have := flK_eq hm
 simp only [Option.some.injEq] at this
 exact kk.run a W ha (by rw [<- this]; exact hW)
end
end Kin
end Go

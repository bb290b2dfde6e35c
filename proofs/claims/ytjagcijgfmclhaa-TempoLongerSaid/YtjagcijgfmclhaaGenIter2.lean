/- The law for a range over a function within a round of another, and the end of a function that gathered marks. Generic: no program is named here. -/
import Derived.Test.YtjagcijgfmclhaaGenIter
set_option linter.unusedSectionVars false
set_option linter.unusedVariables false
set_option linter.unusedSimpArgs false
namespace Go
open Go.RowKit
namespace Kin

/-- **The law**, within a round of the loop `l₀`: one block, no mark. -/
theorem wpIn_rangeListN {α : Type} {P : Program} {g : Operand} {ps : Array Tmp} {assign body : Code} {Q : Exit → Act → World → Prop} {a : Act} {w : World} {n0 l₀ : Nat} {r₀ : Loop}
    (hl₀ : w.heap[l₀]? = some (.loop r₀))
    {gf : Nat} {lb : Array Value} (hg : a.eval g = .func (.func gf) #[] lb) (eg : ∀ args w, (callFunc gf args).run P w = .ok (.enter gf args) w)
    {encs : α → Array Value} {xs : List α} {T R : Nat → Prop}
    (hit : ∀ W, Same (fun _ => True) w W → Iter P gf lb encs xs T R W)
    (hT : ∀ b, T b → b < w.heap.size) (hR : ∀ b, R b → b < w.heap.size) (hps : ∀ x ∈ xs, (encs x).size = ps.size)
    (I : Nat → World → Prop) (Ix : Code → Nat → World → Prop)
    (hI : ∀ k A B, I k A → Same (fun b => ¬ T b ∧ b ≠ w.heap.size) A B → I k B)
    (hIx : ∀ c k A B, Ix c k A → Same (fun b => ¬ T b ∧ b ≠ w.heap.size) A B → Ix c k B)
    (h0 : ∀ W, Same (fun _ => True) w W → I 0 W)
    (Ax : Nat → World → Act → World → Prop)
    (hassign : ∀ (n k : Nat) (hk : k < xs.length) (W : World) (K : Act → World → Prop), I k W → w.heap.size < W.heap.size →
      (∀ a' W', Same (fun b => b = w.heap.size ∨ R b) W W' → Ax k W a' W' → K a' W') →
      assign.wpIn (Fence.wide.inRound w.heap.size) n P (Exit.then K (fun _ _ _ => False)) { tmps := (ps.zip (encs xs[k])).foldl (fun t (p, v) => t.setIfInBounds p v) a.tmps, defers := [] } W)
    (hbody : ∀ (n k : Nat) (_ : k < xs.length) (W : World) (a' : Act) (W' W'' : World), I k W → Ax k W a' W' → Same (fun b => b ≠ w.heap.size) W' W'' → (∃ r, W''.heap[w.heap.size]? = some (.loop r)) →
      body.wpIn (Fence.wide.inRound w.heap.size) n P (roundEnd (fun b => b = w.heap.size) R I Ix k W'') a' W'')
    (hdone : ∀ (W : World), I xs.length W → Q .normal a W)
    (hstop : ∀ (c : Code) (k : Nat) (W : World), k < xs.length → Ix c k W → c.wpIn (Fence.wide.inRound l₀) n0 P Q a W) :
    (Code.rangeFunc g ps assign body).wpIn (Fence.wide.inRound l₀) n0 P Q a w := by
  refine wpIn_rangeFunc ?_
  intro fn _
  obtain ⟨rec, hrec⟩ : ∃ rec : LoopState → Option Code → Loop, rec = fun st pe => { state := st, pending := pe, fn, tmps := a.tmps, params := ps, assign, body, defers := r₀.defers } := ⟨_, rfl⟩
  obtain ⟨W1, hW1⟩ : ∃ W1, w.alloc (.loop (rec .ready none)) = W1 := ⟨_, rfl⟩
  have hs1 : Same (fun _ => True) w W1 := by rw [← hW1]; exact Same.alloc _ _ _
  have hL1 : W1.heap[w.heap.size]? = some (.loop (rec .ready none)) := by rw [← hW1]; exact World.alloc_heap_new w _
  refine ⟨w.heap.size, [], W1, { target := .fn (.func gf) lb, args := #[.func (.yield w.heap.size) #[] #[]] }, W1, gf,
    #[.func (.yield w.heap.size) #[] #[]] ++ lb, W1, ?_, ?_, ?_, ?_, (fun h => by cases h), ?_⟩
  · rw [← hW1, hrec]; exact run_enterLoop_inner hl₀ _ _ _ _ _
  · simp only [resolve, hg]
    simp [go_sem]
  · intro f' _; trivial
  · simp [invoke, go_sem, eg]
  have nT : ∀ {b}, b = w.heap.size → ¬ T b := fun h ht => by have := hT _ ht; omega
  refine CallsIn.inRound l₀ (callsIn_wide.2 ((hit W1 hs1 0 w.heap.size
    (fun k W => I k W ∧ W.heap[w.heap.size]? = some (.loop (rec .ready none)))
    (fun k W => ∃ c, Ix c k W ∧ W.heap[w.heap.size]? = some (.loop (rec .done (some c))))
    (fun k A B h hs => ⟨hI k A B h.1 (hs.mono fun _ h => h.1), hs.obj h.2 (nT rfl)⟩)
    (fun k A B ⟨c, h1, h2⟩ hs => ⟨c, hIx c k A B h1 (hs.mono fun _ h => h.1), hs.obj h2 (nT rfl)⟩)
    ?_ ⟨h0 W1 hs1, hL1⟩).mono ?_))
  · rintro k hk W ⟨hi, hl⟩
    have hy := run_yield (P := P) (args := encs xs[k]) hl (by rw [hrec]; exact hps _ (List.getElem_mem hk))
    rw [hrec] at hy
    refine ⟨fn, _, assign, body, hy, roundIn_of_wpIn trivial (hassign _ k hk W _ hi (lt_of_heap hl) ?_)⟩
    intro a' W' hsa hax
    have hl' := hsa.obj hl (.inl rfl)
    refine ⟨_, run_beginRound hl' (by rw [hrec]), ?_⟩
    obtain ⟨W'', hW''⟩ : ∃ W'', W'.putObj w.heap.size (.loop { rec .ready none with state := .busy }) = W'' := ⟨_, rfl⟩
    rw [hW'']
    have hl2 : W''.heap[w.heap.size]? = some (.loop { rec .ready none with state := .busy }) := by rw [← hW'']; exact World.putObj_heap_same (lt_of_heap hl')
    have hs2 : Same (fun b => b ≠ w.heap.size) W' W'' := by rw [← hW'']; exact Same.putObj _ _ _ (fun h => h rfl)
    have fin : ∀ (jump : Option Code) (W3 : World), Same (fun b => b = w.heap.size) W'' W3 →
        (Instr.endRound w.heap.size jump).run P W3 = .ok (.bool jump.isNone) (W3.putObj w.heap.size (.loop (rec (if jump.isNone then .ready else .done) jump))) ∧
        (W3.putObj w.heap.size (.loop (rec (if jump.isNone then .ready else .done) jump))).heap[w.heap.size]? = some (.loop (rec (if jump.isNone then .ready else .done) jump)) := fun jump W3 hs3 => by
      have hl3 := hs3.obj hl2 rfl
      have := run_endRound (P := P) jump hl3
      rw [hrec] at this ⊢
      exact ⟨this, World.putObj_heap_same (lt_of_heap hl3)⟩
    refine wpIn_mono (hbody _ k hk W a' W' W'' hi hax hs2 ⟨_, hl2⟩) ?_
    have hput : ∀ (W3 : World) (o : Obj), Same (fun b => ¬ T b ∧ b ≠ w.heap.size) W3 (W3.putObj w.heap.size o) := fun W3 o => Same.putObj _ _ _ (fun h => h.2 rfl)
    rintro e a3 W3 hp
    cases e with
    | normal =>
      obtain ⟨hs3, hi3⟩ := hp
      obtain ⟨hr, hl4⟩ := fin none W3 (hs3.mono fun _ h => .inl h)
      refine ⟨_, _, hr, .inl ⟨rfl, ⟨hI _ _ _ hi3 (hput _ _), hl4⟩, ?_⟩⟩
      have nR : ∀ b, R b → b ≠ w.heap.size := fun b hb => by have := hR b hb; omega
      exact ((hsa.mono fun _ h => .inr h).trans (hs2.mono nR)).trans ((hs3.mono fun _ h => .inr h).trans (Same.putObj _ _ _ (fun h => nR _ h rfl)))
    | ret =>
      obtain ⟨hs3, hi3⟩ := hp
      obtain ⟨hr, hl4⟩ := fin (some .ret) W3 hs3
      exact ⟨_, _, hr, .inr ⟨rfl, .ret, hIx _ _ _ _ hi3 (hput _ _), hl4⟩⟩
    | exit id =>
      obtain ⟨hs3, hi3⟩ := hp
      obtain ⟨hr, hl4⟩ := fin (some (.exit id)) W3 hs3
      exact ⟨_, _, hr, .inr ⟨rfl, .exit id, hIx _ _ _ _ hi3 (hput _ _), hl4⟩⟩
    | goto t =>
      obtain ⟨hs3, hi3⟩ := hp
      obtain ⟨hr, hl4⟩ := fin (some (.goto t)) W3 hs3
      exact ⟨_, _, hr, .inr ⟨rfl, .goto t, hIx _ _ _ _ hi3 (hput _ _), hl4⟩⟩
    | panic ch => exact hp.elim
    | outgrown => exact hp.elim
  · have hput : ∀ (W3 : World) (o : Obj), Same (fun b => ¬ T b ∧ b ≠ w.heap.size) W3 (W3.putObj w.heap.size o) := fun W3 o => Same.putObj _ _ _ (fun h => h.2 rfl)
    rintro e W2 ⟨⟨v, rfl⟩, (⟨hi, hl⟩ | ⟨k, hk, c, hi, hl⟩)⟩
    · exact ⟨none, _, by have := run_endLoop (P := P) hl (by rw [hrec]; simp); rw [hrec] at this; exact this,
        hdone _ (hI _ _ _ hi (hput _ _))⟩
    · exact ⟨some c, _, by have := run_endLoop (P := P) hl (by rw [hrec]; simp); rw [hrec] at this; exact this,
        hstop c k _ hk (hIx _ _ _ _ hi (hput _ _))⟩

/-! ## The end of a function that gathered marks -/

def mark (D : Nat) : Deferred := { target := .collected D, args := #[] }

/-- The world with all marks' blocks shut. -/
def shut : List Nat → World → World
  | [], w => w
  | D :: Ds, w => shut Ds (w.putObj D (.deferred none))

/-- All marks' blocks lie open, each in a block of its own. -/
def Marks (Ds : List Nat) (w : World) : Prop := Ds.Nodup ∧ ∀ D ∈ Ds, w.heap[D]? = some (.deferred (some []))

theorem Marks.tail {D : Nat} {Ds : List Nat} {w : World} (h : Marks (D :: Ds) w) : Marks Ds (w.putObj D (.deferred none)) := by
  obtain ⟨h1, h2⟩ := h
  rw [List.nodup_cons] at h1
  exact ⟨h1.2, fun E hE => (World.putObj_heap_other (r := D) (fun e => by subst e; exact h1.1 hE)).trans (h2 E (List.mem_cons_of_mem _ hE))⟩

theorem Marks.keep {Ds : List Nat} {w w' : World} {D : Nat → Prop} (h : Marks Ds w) (hs : Same D w w') (hD : ∀ d ∈ Ds, D d) : Marks Ds w' :=
  ⟨h.1, fun d hd => hs.obj (h.2 d hd) (hD d hd)⟩

theorem shut_same (Ds : List Nat) (w : World) : Same (fun b => b ∉ Ds) w (shut Ds w) := by
  induction Ds generalizing w with
  | nil => exact Same.refl _ _
  | cons D Ds ih =>
    exact (Same.putObj (D := fun b => b ∉ D :: Ds) w D _ (fun h => h List.mem_cons_self)).trans
      ((ih _).mono fun b hb h => hb (List.mem_cons_of_mem _ h))

theorem leaves_marks {P : Program} {fn : Func} {tmps : Array Value} {R : Ending → World → Prop} {v : Value} (Ds : List Nat) (w : World) (h : Marks Ds w)
    (hr : (results fn tmps).run P (shut Ds w) = .ok v (shut Ds w)) (hR : R (.returned v) (shut Ds w)) :
    LeavesInM Fence.wide 0 P fn tmps R (Ds.map mark) .returning w := by
  induction Ds generalizing w with
  | nil => exact ⟨v, hr, hR⟩
  | cons D Ds ih =>
    exact ⟨by simp, .inl ⟨D, _, rfl, run_takeDeferred (h.2 D List.mem_cons_self), ih _ h.tail hr hR⟩⟩

theorem bodyPostK_rets {P : Program} {fn : Func} {R : Ending → World → Prop} {a : Act} {w : World} {v : Value} {Ds : List Nat} (hd : a.defers = Ds.map mark) (h : Marks Ds w)
    (hr : (results fn a.tmps).run P (shut Ds w) = .ok v (shut Ds w)) (hR : R (.returned v) (shut Ds w)) : bodyPostK P fn R .ret a w := by
  show LeavesInM _ _ _ _ _ _ a.defers _ _
  rw [hd]; exact leaves_marks Ds w h hr hR

end Kin
end Go

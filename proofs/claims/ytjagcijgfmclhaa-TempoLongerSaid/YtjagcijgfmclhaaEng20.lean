/- The engine: appending to nil within regions whose order is drawn. Generic: no program is named here. -/
import Derived.Test.YtjagcijgfmclhaaEng19
set_option linter.unusedSectionVars false
set_option linter.unusedVariables false
set_option linter.unusedSimpArgs false
namespace Go
open Go.RowKit
namespace Kin
section
variable {P : Program} {N : Nat} {c : Cx} {Q : Exit → Act → World → Prop} {env : List (Nat × Value)} {L l : List Oper} {tl : List (Nat × Obj)} {fr : OM} {kt : Kt} {rd : List (Nat × Nat)} {d : Tmp} {dd : Option Tmp}
  {ty : TypeId} {pos : String} {af : Array Edge} {g : Option (Nat × Bool)} {tt : List (TypeId × TI)} {mem : List (Nat × Obj)}
/-- The operation appends to nil: what comes out are the elements `xs`, in a new block. -/
structure OpApp0 (P : Program) (N : Nat) (c : Cx) (env : List (Nat × Value)) (mem : List (Nat × Obj)) (o : Oper) (sz n : Nat) (xs : List Value) (e : TypeId) : Prop where
  plain : plainOp o.op = true
  run : ∀ a W, SatA N c.ds env a → SatW c.w0 c.D c.J mem W → ∃ cap rest, (execOp a.eval o).run P W = .ok (.value (.slice (some ⟨W.heap.size, 0, none⟩) n cap)) (W.drew.alloc (.cells ⟨xs ++ rest⟩ e (0, 0))) ∧ Grow sz n xs cap rest
theorem e_app0 {k p sz n : Nat} {op : Op} {xs : List Value} {e : TypeId} {mem' : List (Nat × Obj)} (hw : wantB L env g = some true) (hd : Nat.blt d N = true) (hk : kdOf kt k = some (.app p none sz)) (hp : fr[p]? = some none) (h0 : 0 < sz)
    (hx : xs.length = n * sz) (hn : n ≤ maxLen) (hm : pickO (rowS (shOf kt) rd k) 0 fr tl some = some mem') (hv : OpApp0 P N c env mem' ⟨some d, op, ty, pos, af, g⟩ sz n xs e)
    (kk : ∀ b cap rest, Grow sz n xs cap rest → RunE P N c L kt rd tl l (k + 1) Q ((d, .slice (some ⟨b, 0, none⟩) n cap) :: env) (fr.set p (some (b, .cells ⟨xs ++ rest⟩ e (0, 0))))) : RunE P N c L kt rd tl (⟨some d, op, ty, pos, af, g⟩ :: l) k Q env fr := .mk fun β a ha hr => by
  refine ⟨_, _, .app hk (wanted_of (o := ⟨some d, op, ty, pos, af, g⟩) hw ha) hv.1 hp h0 hx hn (fun q' h => by cases h) (e := e) (fun W hW => ?_), (kk (β k).b _ _ (growF_mk hx hn (β k).rest)).run β _ (ha.put hd _) hr⟩
  obtain ⟨m', h1, h2⟩ := pickO_eq (f := wrS (ancs .any L.toArray) (shOf kt) k) (fun p hp => rowS_ok hr hp) hm
  simp only [Option.some.injEq] at h2
  subst h2
  obtain ⟨cap, rest, g1, g2⟩ := hv.2 a W ha (hW.mono h1)
  exact ⟨_, cap, rest, _, g1, g2, World.alloc_heap_new W.drew _, .inr ⟨rfl, rfl⟩⟩
theorem a_append_nil [T : TT P tt] {t e m cx bx ox sz bt sz' bt' : Nat} {ke : TK} {z z' : Value} {x y : Operand} {ys : List Value}
    (hx : evOp env x = some (.slice none 0 0)) (hy : evOp env y = some (.slice (some ⟨bx, ox, none⟩) m cx)) (ht : look tt t = some ⟨.slice e, sz', bt', z'⟩) (hte : look tt e = some ⟨ke, sz, bt, z⟩) (hnews : News c mem bx ox ys)
    (hl : ys.length = m * sz) (hzl : Nat.beq (cellsL z).length sz = true) (h0 : 0 < m) (hb : m * bt ≤ 140737488355328) (hm : m ≤ maxLen) :
    OpApp0 P N c env mem ⟨dd, .call ⟨.builtin .append, ⟨[x, y]⟩, ⟨[t, t]⟩⟩, ty, pos, af, g⟩ sz m ys e := by
  have hu : P.underlying t = some (.slice e) := (TT.look (P := P) ht).1
  obtain ⟨_, inf, hi, hs, hbt, hz⟩ := TT.look (P := P) hte
  simp only at hs hz hbt
  have hzl := Nat.eq_of_beq_eq_true hzl
  refine ⟨rfl, fun a W ha hmm => ?_⟩
  have hr := run_append_nil (P := P) W t ty e inf z hu hi hz ⟨bx, ox, none⟩ m cx ys (by rw [hs]; exact hl) (fun j v hj => by rw [addr_add]; exact hnews.ok W hmm j v hj) h0 (by simp only [maxLen] at hm; omega) (by rw [hbt]; omega)
  have hge := grownCap_ge W m 0 e
  rw [show (ys.toArray ++ Builtin.zeroCells z.cells (grownCap W m 0 e - m)) = ⟨ys ++ (Builtin.zeroCells z.cells (grownCap W m 0 e - m)).toList⟩ by apply Array.ext'; simp] at hr
  refine ⟨grownCap W m 0 e, (Builtin.zeroCells z.cells (grownCap W m 0 e - m)).toList, p_append (ha.eval hx) (ha.eval hy) hr, hl, ?_, hge, grownCap_le_maxLen W m 0 e hm⟩
  rw [List.length_append, hl, zeroCells_len, cellsL_eq]
  show m * sz + (grownCap W m 0 e - m) * (cellsL z).length = _
  rw [hzl, ← Nat.add_mul]
  congr 1; omega
end
end Kin
end Go

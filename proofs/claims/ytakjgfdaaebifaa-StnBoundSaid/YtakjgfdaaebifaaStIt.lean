/- The iterator over a network's steps, walked. -/
import Derived.Test.YtakjgfdaaebifaaTy
import Derived.Test.YtakjgfdaaebifaaEng6
import Derived.Test.YtakjgfdaaebifaaStAcc
set_option linter.unusedSectionVars false
set_option linter.unusedVariables false
set_option linter.unusedSimpArgs false
namespace Go.Proofs
open Go.RowKit Go.Kin Go.Kin.St
namespace R22
def lkE (x : Lk) : List Value := [.int .i64 x.fr, .int .i64 x.to, .int .i64 x.lo, .int .i64 x.hi]
/-- A step as the iterator yields it. -/
structure RS where
  i : Nat
  lower : Bool
  a : Int
  b : Int
  w : Int
def rawFrom : Nat → List Lk → List RS
  | _, [] => []
  | i, x :: l => ⟨i, false, x.fr, x.to, x.hi⟩ :: ⟨i, true, x.to, x.fr, -x.lo⟩ :: rawFrom (i + 1) l
def raw (l : List Lk) : List RS := rawFrom 0 l
def rsE (s : RS) : List Value := [.agg ⟨[.int .i64 s.i, .bool s.lower]⟩, .agg ⟨[.int .i64 s.a, .int .i64 s.b, .int .i64 s.w]⟩]

theorem rawFrom_len (i : Nat) (l : List Lk) : (rawFrom i l).length = 2 * l.length := by
  induction l generalizing i with
  | nil => rfl
  | cons x l ih => simp only [rawFrom, List.length_cons, ih]; omega
theorem rawFrom_get (i : Nat) (l : List Lk) (k : Nat) (x : Lk) (h : l[k]? = some x) :
    (rawFrom i l)[2 * k]? = some ⟨i + k, false, x.fr, x.to, x.hi⟩ ∧ (rawFrom i l)[2 * k + 1]? = some ⟨i + k, true, x.to, x.fr, -x.lo⟩ := by
  induction l generalizing i k with
  | nil => cases h
  | cons y l ih =>
    cases k with
    | zero => cases h; exact ⟨rfl, rfl⟩
    | succ k =>
      have := ih (i + 1) k h
      rw [show 2 * (k + 1) = 2 * k + 1 + 1 by omega, show i + (k + 1) = i + 1 + k by omega]
      exact this
theorem raw_len (l : List Lk) : (raw l).length = 2 * l.length := rawFrom_len 0 l
theorem raw_get {l : List Lk} {k : Nat} {x : Lk} (h : l[k]? = some x) :
    (raw l)[2 * k]? = some ⟨k, false, x.fr, x.to, x.hi⟩ ∧ (raw l)[2 * k + 1]? = some ⟨k, true, x.to, x.fr, -x.lo⟩ := by
  have := rawFrom_get 0 l k x h
  rw [Nat.zero_add] at this
  exact this

def netCells (n : Int) (A : Option Addr) (len cap : Nat) : List Value := [.int .i64 n, .slice A len cap]

theorem steps_calls (n : Int) (A : Option Addr) (len cap : Nat) (w : World) :
    Calls Try.prog 28 ⟨[.agg ⟨netCells n A len cap⟩]⟩ w fun e w' => ∃ b, e = .returned (.func (.func 34) ⟨[]⟩ ⟨[.pointer (some ⟨b, 0, none⟩)]⟩) ∧ Below w.heap.size w w' ∧ w.heap.size ≤ b ∧ w'.heap[b]? = some (.cells ⟨netCells n A len cap⟩ 24 (0, 0)) := by
  refine fun_enter Try.func28 rfl Try.ntmps28 rfl rfl (satW_nil w) ?_
  repeat (first | refine l_val rfl rfl (by first | exact pureEval_ok rfl ) ?_ | refine l_nil ?_ | refine c_region ?_ | refine c_seq ?_ | refine x_then ?_ | refine r_box rfl rfl rfl rfl (fun _ => ?_) | refine c_ret ?_ )
  refine x_ret rfl rfl (by repeat (first | exact Res.nil | (apply Res.tmp; rfl) | (apply Res.cell; rfl; exact (by repeat (first | exact List.Mem.head _ | apply List.Mem.tail)); rfl; rfl))) rfl (fun W hW => ?_)
  have h := hW.own _ (by repeat (first | exact List.Mem.head _ | apply List.Mem.tail))
  exact ⟨_, rfl, hW.below, Nat.le_of_not_lt h.1, h.2⟩

theorem steps_it (R : Nat → Prop) (b : Nat) (n : Int) (A : Option Addr) (cap : Nat) (l : List Lk) (W : World) (hl : l.length ≤ 1000) (hbox : W.heap[b]? = some (.cells ⟨netCells n A l.length cap⟩ 24 (0, 0))) (hA : At W A 4 (l.map lkE)) (hF : Fine n l) (hn : n ≤ 64)
    (hR : ∀ k, R k → k < W.heap.size) (hRb : R b) (hRA : ∀ a, A = some a → l ≠ [] → R a.block) :
    It Try.prog 34 [.pointer (some ⟨b, 0, none⟩)] rsE (raw l) R W := by
  intro lp J Jx cJ cJx hy h0
  have hb : Ext W R b 0 (netCells n A l.length cap) := ⟨hRb, fun i v hi => by
    unfold World.cell?; rw [hbox, Nat.zero_add]; simpa using hi⟩
  have hs : SatW W R (J 0) [] W := ⟨Same.refl _ _, hR, List.nodup_nil, fun p hp => (by cases hp), cJ 0, cJ 0 _ _ _ _ h0 (Same.refl _ _) fun b hb => (by cases hb)⟩
  refine fun_enter Try.func34 rfl Try.ntmps34 rfl rfl hs ?_
  repeat (first | refine l_val rfl rfl (by first | exact pureEval_ok rfl | exact v_load_ext rfl (by assumption) rfl (by rfl) ) ?_ | refine l_nil ?_ | refine c_region ?_ | refine c_seq ?_ | refine x_then ?_ | refine c_block ?_ )
  refine c_loopD (ι := Nat) (fun k => k ≤ l.length) (fun _ => []) (fun k => J (2 * k)) (fun k => [(0, .func (.yield lp) ⟨[]⟩ ⟨[]⟩), (6, .slice A l.length cap), (7, .int .i64 l.length), (8, .int .i64 k)]) (fun _ => []) (fun k => l.length - k) 0 (by omega) rfl rfl (by repeat (first | exact EnvSub.nil | refine EnvSub.cons rfl (by first | rfl | (congr 1; done) | (exact congrArg (Value.int _) (by omega)) | (simp; done)) ?_)) (by repeat (first | exact MSub.nil | refine MSub.keep (by first | rfl | assumption) ?_ | refine MSub.drop ?_ | exact MSub.refl _)) ?_
  intro k hk
  by_cases hlt : k < l.length
  · obtain ⟨x, hx⟩ : ∃ x, l[k]? = some x := ⟨_, List.getElem?_eq_getElem hlt⟩
    obtain ⟨b', o, rfl, hc⟩ := hA k (lkE x) (by simp [hx])
    have he : Ext W R b' (o + k * 4) (lkE x) := ⟨hRA _ rfl (fun e => by subst e; simp at hlt), hc⟩
    have hf := hF x (List.mem_of_getElem? hx)
    unfold Lk.Fine at hf
    obtain ⟨g1, g2⟩ := raw_get hx
    have hlen := raw_len l
    have e1 : (raw l)[2 * k]'(by omega) = ⟨k, false, x.fr, x.to, x.hi⟩ := (List.getElem?_eq_some_iff.1 g1).2
    have e2 : (raw l)[2 * k + 1]'(by omega) = ⟨k, true, x.to, x.fr, -x.lo⟩ := (List.getElem?_eq_some_iff.1 g2).2
    repeat (first | refine l_val rfl rfl (by first | exact pureEval_ok rfl | exact v_load rfl (by repeat (first | exact List.Mem.head _ | apply List.Mem.tail)) rfl (by rfl) | exact v_load_ext0 rfl (by assumption) rfl (by rfl) | exact v_index rfl rfl rfl rfl (by omega) (by omega) (by with_reducible first | exact idx4 _ _ _  ) | exact v_build rfl rfl (by rfl) ) ?_ | refine l_nil ?_ | refine c_region ?_ | refine c_seq ?_ | refine x_then ?_ | refine r_alloc rfl rfl rfl (by first | rfl ) (fun _ => ?_) | refine r_store rfl rfl rfl rfl rfl rfl rfl (by repeat (first | exact Upd.head | apply Upd.tail)) (by rfl) ?_ | refine c_dec_t rfl (by first | omega ) ?_ | refine c_block ?_ | refine c_skip ?_ )
    refine l_yield rfl rfl rfl rfl rfl (cJ (2 * k + 1)) (cJx (2 * k)) (fun S A hj hS => by have := hy (2 * k) (by omega) S A hj hS; rw [e1] at this; exact this) ?_ (fun W0 => ?_)
    · repeat (first | refine l_val rfl rfl (by first | exact v_neg rfl (by omega) (by omega) | exact pureEval_ok rfl | exact v_load rfl (by repeat (first | exact List.Mem.head _ | apply List.Mem.tail)) rfl (by rfl) | exact v_build rfl rfl (by rfl) ) ?_ )
      refine l_yield rfl rfl rfl rfl rfl (cJ (2 * k + 1 + 1)) (cJx (2 * k + 1)) (fun S A hj hS => by have := hy (2 * k + 1) (by omega) S A hj hS; rw [e2] at this; exact this) ?_ (fun W0 => ?_)
      · repeat (first | refine l_val rfl rfl (by first | exact v_add rfl rfl (by omega) (by omega) | exact pureEval_ok rfl ) ?_ | refine l_nil ?_ | refine c_region ?_ | refine x_then ?_ | refine c_false rfl ?_ | refine c_skip ?_ | refine x_block ?_ )
        exact x_backD (k + 1) (by omega) (by omega) rfl rfl (by repeat (first | exact EnvSub.nil | refine EnvSub.cons rfl (by first | rfl | (congr 1; done) | (exact congrArg (Value.int _) (by omega)) | (simp; done)) ?_)) (by repeat (first | exact MSub.nil | refine MSub.keep (by first | rfl | assumption) ?_ | refine MSub.drop ?_ | exact MSub.refl _))
      · repeat (first | refine l_val rfl rfl (by first | exact pureEval_ok rfl ) ?_ | refine l_nil ?_ | refine x_then ?_ | refine c_true rfl ?_ | refine c_ret ?_ | refine x_then_ret ?_ | refine x_block_ret ?_ )
        exact x_ret rfl rfl (by repeat (first | exact Res.nil | (apply Res.tmp; rfl) | (apply Res.cell; rfl; exact (by repeat (first | exact List.Mem.head _ | apply List.Mem.tail)); rfl; rfl))) rfl (fun W hW => ⟨⟨_, rfl⟩, .inr ⟨2 * k + 1, by omega, _, hW.word⟩⟩)
    · repeat (first | refine l_val rfl rfl (by first | exact pureEval_ok rfl | exact v_build rfl rfl (by rfl) ) ?_ | refine l_nil ?_ | refine x_then ?_ | refine l_skip rfl rfl ?_ | refine c_true rfl ?_ | refine c_ret ?_ | refine x_then_ret ?_ | refine x_block_ret ?_ )
      exact x_ret rfl rfl (by repeat (first | exact Res.nil | (apply Res.tmp; rfl) | (apply Res.cell; rfl; exact (by repeat (first | exact List.Mem.head _ | apply List.Mem.tail)); rfl; rfl))) rfl (fun W hW => ⟨⟨_, rfl⟩, .inr ⟨2 * k, by omega, _, hW.word⟩⟩)
  · have hkl : k = l.length := by omega
    subst hkl
    have hlen := raw_len l
    repeat (first | refine l_val rfl rfl (by first | exact pureEval_ok rfl ) ?_ | refine l_nil ?_ | refine c_region ?_ | refine c_seq ?_ | refine x_then ?_ | refine c_dec_f rfl (by first | omega ) ?_ | refine c_exit ?_ | refine x_then_exit ?_ | refine x_block_same ?_ )
    exact x_end rfl rfl (by repeat (first | exact Res.nil | (apply Res.tmp; rfl) | (apply Res.cell; rfl; exact (by repeat (first | exact List.Mem.head _ | apply List.Mem.tail)); rfl; rfl))) rfl (fun W hW => ⟨⟨_, rfl⟩, .inl ⟨_, by rw [hlen]; exact hW.word⟩⟩)
/-- What the iterator reads: its box, and the links that came in. -/
def Rd (w : World) (b : Nat) : Nat → Prop := fun k => base w k ∨ k = b

/-- the steps' iterator, at whatever world of the range -/
theorem it_of {w W W1 : World} {J : (Nat → Prop) → World → Prop} {mem : List (Nat × Obj)} {b : Nat} {n : Int} {A : Option Addr} {cap : Nat} {l : List Lk} (hl : l.length ≤ 1000) (hA : At w A 4 (l.map lkE)) (hF : Fine n l) (hn : n ≤ 64)
    (hm : SatW w (base w) J mem W) (hb : (b, Obj.cells ⟨netCells n A l.length cap⟩ 24 (0, 0)) ∈ mem) (hs : Same (fun _ => True) W W1) : It Try.prog 34 [.pointer (some ⟨b, 0, none⟩)] rsE (raw l) (Rd w b) W1 := by
  have hlt := hm.lt hb
  simp only at hlt
  have hsz := hs.size
  refine steps_it (Rd w b) b n A cap l W1 hl (hs.obj (hm.own _ hb).2 trivial) ((hA.sat hm).later (hs.below (Nat.le_refl _) fun _ _ => trivial)) hF hn ?_ (.inr rfl) ?_
  · rintro k (hk | rfl)
    · have := hm.same.size; unfold base at hk; omega
    · omega
  · intro a ha hne
    obtain ⟨x, l', rfl⟩ := List.exists_cons_of_ne_nil hne
    obtain ⟨b', o, h1, h2⟩ := hA 0 (lkE x) rfl
    rw [ha] at h1
    cases h1
    exact .inl (lt_of_cell (h2 0 _ rfl))
end R22
end Go.Proofs

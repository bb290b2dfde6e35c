/- Meets, in the specification and in the program. -/
import Derived.Test.YtcodoembnjemkaaGreatStMet
import Derived.Test.YtcodoembnjemkaaGreatSgE
import Derived.Test.YtcodoembnjemkaaGreatStAcc
set_option linter.unusedSectionVars false
set_option linter.unusedVariables false
set_option linter.unusedSimpArgs false
namespace Go.Proofs
open Go.RowKit Go.Kin Go.Kin.St
namespace R22
/-- What Meets answers. -/
def mtB (n : Int) (l : List Lk) (t : List Int) : Bool := decide (chk n l = 0) && schB n l t
def mtE (n : Int) (l : List Lk) (t : List Int) : Int := if chk n l ≠ 0 then chk n l else if (t.length : Int) ≠ n ∨ ¬ tmB t = true then 1 else 0
theorem mt_bad {n : Int} {l : List Lk} {t : List Int} (h : chk n l ≠ 0) : mtB n l t = false /\ mtE n l t = chk n l := by
 unfold mtB mtE; rw [decide_eq_false h, if_pos h]; exact ⟨rfl, rfl⟩
theorem mt_arg {n : Int} {l : List Lk} {t : List Int} (h : chk n l = 0) (h2 : (t.length : Int) ≠ n ∨ ¬ tmB t = true) : mtB n l t = false /\ mtE n l t = 1 := by
 unfold mtB mtE schB; rw [if_neg (by simp [h]), if_pos h2]
 refine ⟨?_, rfl⟩
 rcases h2 with h2 | h2
 ·simp [h2]
 ·simp [h2]
theorem mt_ok {n : Int} {l : List Lk} {t : List Int} (h : chk n l = 0) (h2 : (t.length : Int) = n) (h3 : tmB t = true) : mtB n l t = metB l t /\ mtE n l t = 0 := by
 unfold mtB mtE schB; rw [if_neg (by simp [h]), if_neg (by simp [h2, h3])]
 exact ⟨by simp [h, h2, h3], rfl⟩
theorem chk_fine {n : Int} {l : List Lk} (h : chk n l = 0) : 1 <= n /\ n <= 64 /\ l.length <= 256 /\ Fine n l := by
 by_cases h1 : n < 1 ∨ 64 < n
 ·rw [chk_1 h1] at h; omega
 ·by_cases h2 : 256 < l.length
  ·rw [chk_2 h1 h2] at h; omega
  ·by_cases h3 : Fine n l
   ·exact ⟨by omega, by omega, by omega, h3⟩
   ·rw [chk_220 h1 h2 h3] at h; omega

def mtV (n : Int) (l : List Lk) (t : List Int) : Value := .tuple ⟨[.bool (mtB n l t), .int .i64 (mtE n l t)]⟩


theorem raw_fine {n : Int} {l : List Lk} (h : Fine n l) {k : Nat} {s : RS} (hs : (raw l)[k]? = some s) : 0 <= s.a /\ s.a < n /\ 0 <= s.b /\ s.b < n /\ s.a ≠ s.b /\ -1099511627776 <= s.w /\ s.w <= 1099511627776 := by
 have hlen := raw_len l
 have hk : k < (raw l).length := (List.getElem?_eq_some_iff.1 hs).1
 have hi : k / 2 < l.length := by omega
 have hf := h _ (List.getElem_mem hi)
 unfold Lk.Fine at hf
 obtain ⟨g1, g2⟩ := raw_get (List.getElem?_eq_getElem hi)
 rcases Nat.mod_two_eq_zero_or_one k with h2 | h2
 ·rw [show k = 2 * (k / 2) by omega, g1] at hs
  cases hs
  simp only; omega
 ·rw [show k = 2 * (k / 2) + 1 by omega, g2] at hs
  cases hs
  simp only; omega

/-- a step holds of times -/
def rsB (t : List Int) (s : RS) : Bool := decide (tf t s.b.toNat - tf t s.a.toNat <= s.w)
theorem metB_raw (l : List Lk) (t : List Int) : metB l t = (raw l).all (rsB t) := by
 have : ∀ i, (rawFrom i l).all (rsB t) = metB l t := by
  induction l with
  | nil => intro i; rfl
  | cons x l ih =>
   intro i
   simp only [rawFrom, List.all_cons, ih, metB, rsB, lkB]
   rw [<- Bool.and_assoc]
   congr 1
   rw [<- Bool.decide_and]
   congr 1
   apply propext; omega
 rw [raw, this]

theorem Meets_calls (n : Int) (A T : Option Addr) (cap capT : Nat) (l : List Lk) (t : List Int) (w : World) (hl : l.length <= 1000) (ht : t.length <= 1000) (hA : At w A 4 (l.map lkE)) (hT : At w T 1 (t.map inE)) :
  Calls Tryz.prog 51 ⟨[.agg ⟨netCells n A l.length cap⟩, .slice T t.length capT]⟩ w fun e w' => e = .returned (mtV n l t) /\ Below w.heap.size w w' := by
 refine fun_enter Tryz.func51 rfl Tryz.ntmps51 rfl rfl (satW_nil w) ?_
 repeat (first|refine l_val rfl rfl (by first|exact v_load rfl (by repeat constructor) rfl (by rfl)|fail) ?_|refine l_nil ?_|refine c_region ?_|refine c_seq ?_|refine x_then ?_|refine r_box rfl rfl rfl rfl (fun _ => ?_)|refine r_alloc rfl rfl rfl (by first|exact aggL|fail) (fun _ => ?_)|fail)
 refine r_call rfl rfl rfl (fun W hW => check_calls n A cap l W hl (hA.sat hW)) ?_
 repeat' (first|refine l_val rfl rfl (by first|exact pureEval_ok rfl|exact v_load rfl (by repeat constructor) rfl (by rfl)|fail) ?_|refine l_nil ?_|refine c_region ?_|refine c_seq ?_|refine x_then ?_|refine r_store rfl rfl rfl rfl rfl rfl rfl (by repeat constructor) (by rfl) ?_|refine c_block ?_|refine c_skip ?_|refine c_ret ?_|refine x_then_ret ?_|refine c_dec rfl (fun _ => ?_) (fun _ => ?_)|fail)
 ·rename_i b1 b2 b3 b4 h1
  refine c_any rfl ?_; repeat' (first|refine a_done (by decide +kernel) ?_|refine a_one (i := 0) (by decide +kernel) (op_val rfl rfl rfl rfl (by first|exact v_load rfl (by repeat constructor) rfl (by rfl)|fail) ?_)|refine a_one (i := 1) (by decide +kernel) (op_do rfl rfl rfl (by first|exact d_store rfl rfl rfl rfl rfl rfl (by repeat constructor) (by rfl)|fail) ?_)|refine a_one (i := 2) (by decide +kernel) (op_do rfl rfl rfl (by first|exact d_store rfl rfl rfl rfl rfl rfl (by repeat constructor) (by rfl)|fail) ?_)|refine a_two (i := 0) (j := 1) (by decide +kernel) (op_val rfl rfl rfl rfl (by first|exact v_load rfl (by repeat constructor) rfl (by rfl)|fail) ?_) (op_do rfl rfl rfl (by first|exact d_store rfl rfl rfl rfl rfl rfl (by repeat constructor) (by rfl)|fail) ?_) )
  all_goals
   repeat (first|refine x_then ?_|refine c_ret ?_|refine x_then_ret ?_|fail)
   refine x_ret rfl rfl (by repeat (first|exact .nil|(apply Res.tmp; rfl)|(apply Res.cell; rfl; exact (by repeat constructor); rfl; rfl))) rfl (fun W hW => ⟨?_, hW.below⟩)
   unfold mtV; rw [(mt_bad h1).1, (mt_bad h1).2]
 ·rename_i b1 b2 b3 b4 h0 h1
  have h0 := Decidable.not_not.1 h0
  refine x_ret rfl rfl (by repeat (first|exact .nil|(apply Res.tmp; rfl)|(apply Res.cell; rfl; exact (by repeat constructor); rfl; rfl))) rfl (fun W hW => ⟨?_, hW.below⟩)
  unfold mtV; rw [(mt_arg h0 (.inl h1)).1, (mt_arg h0 (.inl h1)).2]
 ·rename_i b1 b2 b3 b4 h0 h1
  have h0 := Decidable.not_not.1 h0
  have h1 := Decidable.not_not.1 h1
  obtain ⟨c1, c2, c3, hF⟩ := chk_fine h0
  refine c_loop (ι := Nat) (fun k => k <= t.length /\ ∀ v ∈ t.take k, 0 <= v /\ v <= 1152921504606846976) (fun k => [(2, .pointer (some ⟨b1, 0, none⟩)), (3, .pointer (some ⟨b2, 0, none⟩)), (4, .pointer (some ⟨b3, 0, none⟩)), (5, .pointer (some ⟨b4, 0, none⟩)),
    (20, .slice T t.length capT), (21, .int .i64 t.length), (22, .int .i64 k)])
   (fun _ => [(b4, .cells ⟨[.int .i64 (chk n l)]⟩ 29 (0, 0)), (b3, .cells ⟨[.bool false]⟩ 4 (0, 0)), (b2, .cells ⟨[.slice T t.length capT]⟩ 37 (0, 0)), (b1, .cells ⟨netCells n A l.length cap⟩ 90 (0, 0))]) (fun k => t.length - k) 0 ⟨by omega, by simp⟩ (by repeat (first|exact .nil|refine .cons rfl (by first|rfl|(congr 1; done)|exact congrArg _ (by omega)|(simp; done)) ?_)) (by repeat (first|exact .nil|refine .keep (by first|rfl|assumption) ?_|refine .drop ?_|exact MSub.refl _)) ?_
  rintro k ⟨hk, hM⟩
  by_cases hlt : k < t.length
  ·obtain ⟨b, o, rfl, he⟩ := at_int hT (i := k) (by omega) (by omega)
   simp only [Int.toNat_natCast] at he
   have hg : t[k]? = some (tf t k) := by unfold tf; rw [List.getD_eq_getElem?_getD, List.getElem?_eq_getElem hlt]; rfl
   repeat' (first|refine l_val rfl rfl (by first|exact v_add rfl rfl (by omega) (by omega)|exact pureEval_ok rfl|exact v_load_ext0 rfl (by assumption) rfl (by rfl)|exact v_index rfl rfl rfl rfl (by omega) (by omega) (by with_reducible first|exact idx2 _ _|fail)|fail) ?_|refine l_nil ?_|refine c_region ?_|refine c_seq ?_|refine x_then ?_|refine l_skip rfl rfl ?_|refine r_store rfl rfl rfl rfl rfl rfl rfl (by repeat constructor) (by rfl) ?_|refine c_true rfl ?_|refine c_dec_t rfl (by first|omega|fail) ?_|refine c_block ?_|refine c_skip ?_|refine c_ret ?_|refine x_then_ret ?_|refine x_block ?_|refine x_block_ret ?_|refine l_dec rfl rfl rfl rfl rfl (fun _ => ?_) (fun _ => ?_)|refine c_dec rfl (fun _ => ?_) (fun _ => ?_)|fail)
   all_goals first
    | (refine x_ret rfl rfl (by repeat (first|exact .nil|(apply Res.tmp; rfl)|(apply Res.cell; rfl; exact (by repeat constructor); rfl; rfl))) rfl (fun W hW => ⟨?_, hW.below⟩)
       have hno : ¬ tmB t = true := by
        intro h
        have := (tmB_iff t).1 h _ (List.mem_of_getElem? hg)
        omega
       unfold mtV; rw [(mt_arg h0 (.inr hno)).1, (mt_arg h0 (.inr hno)).2])
    | (refine x_back (k + 1) ⟨hlt, ?_⟩ (by omega) (by repeat (first|exact .nil|refine .cons rfl (by first|rfl|(congr 1; done)|exact congrArg _ (by omega)|(simp; done)) ?_)) (by repeat (first|exact .nil|refine .keep (by first|rfl|assumption) ?_|refine .drop ?_|exact MSub.refl _))
       intro y hy
       rw [List.take_add_one, hg] at hy
       rcases List.mem_append.1 hy with h | h
       ·exact hM y h
       ·simp only [Option.toList_some, List.mem_singleton] at h
        rw [h]; omega)
  ·have hkl : k = t.length := by omega
   subst hkl
   rw [List.take_length] at hM
   have hr : Tm t := hM
   repeat (first|refine l_val rfl rfl (by first|exact pureEval_ok rfl|exact v_load rfl (by repeat constructor) rfl (by rfl)|fail) ?_|refine l_nil ?_|refine c_region ?_|refine c_seq ?_|refine x_then ?_|refine c_dec_f rfl (by first|omega|fail) ?_|refine c_exit ?_|refine x_then_exit ?_|refine x_block_same ?_|fail)
   refine r_call1 (ι := Nat) (bk := fun b => b) rfl rfl rfl (fun W hW => steps_calls n A l.length cap W) (fun b5 => ?_)
   repeat (first|refine l_nil ?_|refine x_then ?_|refine c_block ?_|fail)
   refine c_range rsE (raw l) (Rd w b5) [(b5, .cells ⟨netCells n A l.length cap⟩ 90 (0, 0))] (ι := Option Nat) (fun o => o.getD 0) (fun o => ∃ k, o = some k /\ ∀ s ∈ (raw l).take k, rsB t s = true)
    (fun o => match o with
     | some _ => [(b4, .cells ⟨[.int .i64 (chk n l)]⟩ 29 (0, 0)), (b3, .cells ⟨[.bool false]⟩ 4 (0, 0)), (b2, .cells ⟨[.slice T t.length capT]⟩ 37 (0, 0))]
     | none => [(b4, .cells ⟨[.int .i64 0]⟩ 29 (0, 0)), (b3, .cells ⟨[.bool false]⟩ 4 (0, 0)), (b2, .cells ⟨[.slice T t.length capT]⟩ 37 (0, 0))])
    (fun c o => c = .ret /\ o = none /\ metB l t = false) (some 0) rfl (fun W W1 hW hs => it_of hl hA hF c2 hW (by repeat constructor) hs) (fun b hb => hb.imp id fun e => by simp [e]) (fun _ _ => rfl) (by decide) rfl ⟨0, rfl, by simp⟩ (by repeat (first|exact .nil|refine .keep (by first|rfl|assumption) ?_|refine .drop ?_|exact MSub.refl _))
    (env' := [(3, .pointer (some ⟨b2, 0, none⟩)), (4, .pointer (some ⟨b3, 0, none⟩)), (5, .pointer (some ⟨b4, 0, none⟩))]) (by repeat (first|exact .nil|refine .cons rfl (by first|rfl|(congr 1; done)|exact congrArg _ (by omega)|(simp; done)) ?_)) ?_ ?_ ?_
   ·rintro _ ⟨k, rfl, hI⟩ hk m lp W1 hW1 hDl hol
    simp only [Option.getD_some] at hk ⊢
    obtain ⟨s, hs⟩ : ∃ s, (raw l)[k] = s := ⟨_, rfl⟩
    have hs2 : (raw l)[k]? = some s := by rw [List.getElem?_eq_getElem hk, hs]
    rw [hs]
    have hf := raw_fine hF hs2
    repeat (first|refine l_nil ?_|refine c_region ?_|refine r_alloc rfl rfl rfl (by first|exact aggL|fail) (fun _ => ?_)|refine r_store rfl rfl rfl rfl rfl rfl rfl (by repeat constructor) (by rfl) ?_|fail)
    refine x_body hW1 hDl hol (fun n2 W2 r hW2 hr2 ho => ?_)
    obtain ⟨c1, o1, rfl, e1⟩ := at_int hT (i := s.a) (by omega) (by omega)
    obtain ⟨c2, o2, h2, e2⟩ := at_int hT (i := s.b) (by omega) (by omega)
    cases h2
    have e1 := e1.into hW2
    have e2 := e2.into hW2
    have r1 := tf_in hr s.a.toNat
    have r2 := tf_in hr s.b.toNat
    repeat' (first|refine l_nil ?_|refine c_region ?_|refine c_seq ?_|refine x_then ?_|refine r_store rfl rfl rfl rfl rfl rfl rfl (by repeat constructor) (by rfl) ?_|refine c_block ?_|refine c_skip ?_|refine c_ret ?_|refine x_block ?_|refine x_block_ret ?_|refine c_reads rfl (by decide +kernel) ?_|refine q_val rfl rfl (by first|exact v_sub rfl rfl (by omega) (by omega)|exact pureEval_ok rfl|exact v_load rfl (by repeat constructor) rfl (by rfl)|exact v_load_ext0 rfl (by assumption) rfl (by rfl)|exact v_index rfl rfl rfl rfl (by omega) (by omega) (by with_reducible first|exact idx6 _ _|fail)|fail) ?_|refine q_nil ?_|refine c_dec rfl (fun _ => ?_) (fun _ => ?_)|fail)
    ·refine x_leave_ret none ⟨rfl, rfl, ?_⟩ (by repeat (first|exact .nil|refine .keep (by first|rfl|assumption) ?_|refine .drop ?_|exact MSub.refl _))
     rw [metB_raw, Bool.eq_false_iff]
     intro h
     have := List.all_eq_true.1 h s (List.mem_of_getElem? hs2)
     simp only [rsB, decide_eq_true_eq] at this
     omega
    ·refine x_next (some (k + 1)) rfl ⟨_, rfl, ?_⟩ (by repeat (first|exact .nil|refine .keep (by first|rfl|assumption) ?_|refine .drop ?_|exact MSub.refl _))
     intro y hy
     rw [List.take_add_one, hs2] at hy
     rcases List.mem_append.1 hy with h | h
     ·exact hI y h
     ·simp only [Option.toList_some, List.mem_singleton] at h
      rw [h]; simp only [rsB, decide_eq_true_eq]; omega
   ·rintro B _ hk ⟨k, rfl, hI⟩
    simp only [Option.getD_some] at hk
    subst hk
    rw [List.take_length] at hI
    have hm : metB l t = true := by rw [metB_raw]; exact List.all_eq_true.2 hI
    repeat (first|refine l_nil ?_|refine c_region ?_|refine c_seq ?_|refine x_then ?_|refine r_store rfl rfl rfl rfl rfl rfl rfl (by repeat constructor) (by rfl) ?_|refine c_ret ?_|refine x_block ?_|fail)
    refine x_rets (Ds := [B]) rfl rfl (by repeat (first|exact Split.nil|exact Split.all|apply Split.mark|apply Split.keep)) rfl (by repeat (first|exact .nil|(apply Res.tmp; rfl)|(apply Res.cell; rfl; exact (by repeat constructor); rfl; rfl))) rfl (fun W hW => ⟨?_, hW.below⟩)
    unfold mtV; rw [(mt_ok h0 h1 ((tmB_iff t).2 hr)).1, (mt_ok h0 h1 ((tmB_iff t).2 hr)).2, hm]
   ·rintro B _ _ ⟨rfl, rfl, hm⟩
    repeat (first|refine c_ret ?_|refine x_then_ret ?_|refine x_block_ret ?_|fail)
    refine x_rets (Ds := [B]) rfl rfl (by repeat (first|exact Split.nil|exact Split.all|apply Split.mark|apply Split.keep)) rfl (by repeat (first|exact .nil|(apply Res.tmp; rfl)|(apply Res.cell; rfl; exact (by repeat constructor); rfl; rfl))) rfl (fun W hW => ⟨?_, hW.below⟩)
    unfold mtV; rw [(mt_ok h0 h1 ((tmB_iff t).2 hr)).1, (mt_ok h0 h1 ((tmB_iff t).2 hr)).2, hm]
end R22
end Go.Proofs

namespace Go
open Go.RowKit
namespace Kin
section
variable {P : Program} {N : Nat} {c : Cx} {Q : Exit -> Act -> World -> Prop} {env : List (Nat × Value)} {mem mem' : List (Nat × Obj)} {L l : List Oper} {tt : List (TypeId × TI)}
 {ty : TypeId} {pos : String} {af : Array Edge} {g : Option (Nat × Bool)} {dd : Option Tmp}
/-- the first elements of an array -/
theorem v_sliceArr [T : TT P tt] {t e n b o h sz bt sz' bt' : Nat} {x hi : Operand} {ke : TK} {z z' : Value} {k : IntKind} {i : Int} (hx : evOp env x = some (.pointer (some ⟨b, o, none⟩))) (hl : evOp env hi = some (.int k i)) (ht : look tt t = some ⟨.array n e, sz', bt', z'⟩)
  (hte : look tt e = some ⟨ke, sz, bt, z⟩) (hil : i = h) (h1 : h <= n) :
  OpVal P N c env mem ⟨dd, .slice t x none (some hi) none, ty, pos, af, g⟩ (.slice (some ⟨b, o, none⟩) h n) :=
 ⟨rfl, fun a W ha _ => by
  subst hil
  have hu : P.underlying t = some (.array n e) := (TT.look (P := P) ht).1
  obtain ⟨i', hi', hs'⟩ := (TT.look (P := P) hte).size
  simp only [execOp, ha.eval hx, Option.map_some, Option.map_none, ha.eval hl, Instr.sliceAt, Instr.sureAddr, Instr.sliceBounds, Instr.sliceBound, asIntOf, Sem.run_bind, Sem.run_pure, Result.andThen_ok, run_und hu]
  rw [if_pos (⟨by omega, by omega⟩ : 0 <= ((h : Nat) : Int) /\ ((h : Nat) : Int) <= n)]
  simp only [Sem.run_bind, Sem.run_pure, Result.andThen_ok, run_size hi', hs', Int.toNat_natCast, Nat.zero_mul, addr_add, Nat.add_zero, Nat.sub_zero, ite_self]⟩
/-- the first elements of a slice -/
theorem v_sliceH [T : TT P tt] {t e n cap h sz bt sz' bt' : Nat} {A : Option Addr} {x hi : Operand} {ke : TK} {z z' : Value} {k : IntKind} {i : Int} (hx : evOp env x = some (.slice A n cap)) (hl : evOp env hi = some (.int k i)) (ht : look tt t = some ⟨.slice e, sz', bt', z'⟩)
  (hte : look tt e = some ⟨ke, sz, bt, z⟩) (hil : i = h) (h1 : h <= cap) :
  OpVal P N c env mem ⟨dd, .slice t x none (some hi) none, ty, pos, af, g⟩ (.slice A h cap) :=
 ⟨rfl, fun a W ha _ => by
  subst hil
  have hu : P.underlying t = some (.slice e) := (TT.look (P := P) ht).1
  obtain ⟨i', hi', hs'⟩ := (TT.look (P := P) hte).size
  simp only [execOp, ha.eval hx, Option.map_some, Option.map_none, ha.eval hl, Instr.sliceAt, Instr.slice, Instr.sliceBounds, Instr.sliceBound, asIntOf, Sem.run_bind, Sem.run_pure, Result.andThen_ok, run_und hu]
  rw [if_pos (⟨by omega, by omega⟩ : 0 <= ((h : Nat) : Int) /\ ((h : Nat) : Int) <= cap)]
  have e1 : A.map (fun x : Addr => x.add (0 * i'.size)) = A := by
   cases A with
   | none => rfl
   | some a => simp [Addr.add]
  simp only [Sem.run_bind, Sem.run_pure, Result.andThen_ok, run_size hi', Int.toNat_natCast, Nat.sub_zero, e1, ite_self]⟩
variable [Wide c.F]
/-- The operation yields a value that nobody keeps, and memory is then one of `mem'`. -/
theorem l_eff0 {op : Op} {ι : Type} {mem' : ι -> List (Nat × Obj)} (hw : wantB L env g = some true) (hp : plainOp op = true)
  (h : ∀ a W, SatA N c.ds env a -> SatW c.w0 c.D c.J mem W -> ∃ i v W', (execOp a.eval ⟨none, op, ty, pos, af, g⟩).run P W = .ok (.value v) W' /\ SatW c.w0 c.D c.J (mem' i) W') (k : ∀ i, RunL P N c L l Q env (mem' i)) :
  RunL P N c L (⟨none, op, ty, pos, af, g⟩ :: l) Q env mem :=
 l_run hw fun a W ha hm => by
  obtain ⟨i, v, W', h1, h2⟩ := h a W ha hm
  rw [semAt_plain _ hp, h1]
  exact (k i).run _ _ ha h2
theorem zeroCells_mem {z : Array Value} {n : Nat} {v : Value} (h : v ∈ (Builtin.zeroCells z n).toList) : v ∈ z.toList := by
 unfold Builtin.zeroCells at h
 simp only [Array.toList_map, Array.toList_range, List.mem_map, List.mem_range] at h
 obtain ⟨i, hi, rfl⟩ := h
 have h0 : 0 < z.size := by
  rcases Nat.eq_zero_or_pos z.size with h | h
  ·rw [h, Nat.mul_zero] at hi; omega
  ·exact h
 have hlt := Nat.mod_lt i h0
 rw [getElem!_pos z (i % z.size) hlt]
 exact Array.getElem_mem_toList hlt
/-- the elements of a slice in a block of one's own are cleared -/
theorem r_clear [T : TT P tt] {t e n cap b o sz bt sz' bt' : Nat} {x : Operand} {ke : TK} {z z' : Value} {cs : List Value} {mem' : List Value -> List (Nat × Obj)} (hw : wantB L env g = some true) (hx : evOp env x = some (.slice (some ⟨b, o, none⟩) n cap)) (ht : look tt t = some ⟨.slice e, sz', bt', z'⟩)
  (hte : look tt e = some ⟨ke, sz, bt, z⟩) (hz : Nat.beq (cellsL z).length sz = true) (hone : allOne (cellsL z) = true) (hu : ∀ zs, Upd mem b (.cells ⟨cs⟩ e (0, 0)) (.cells ⟨splice cs o zs⟩ e (0, 0)) (mem' zs)) (hle : o + n * sz <= cs.length)
  (k : ∀ zs : List Value, zs.length = n * sz -> RunL P N c L l Q env (mem' zs)) :
  RunL P N c L (⟨none, .call ⟨.builtin .clear, ⟨[x]⟩, ⟨[t]⟩⟩, ty, pos, af, g⟩ :: l) Q env mem := by
 refine l_eff0 (ι := { zs : List Value // zs.length = n * sz }) (mem' := fun zs => mem' zs.1) hw rfl (fun a W ha hm => ?_) (fun zs => k zs.1 zs.2)
 have hut : P.underlying t = some (.slice e) := (TT.look (P := P) ht).1
 obtain ⟨_, i, hi, _, _, hzi⟩ := TT.look (P := P) hte
 have hz2 : (zeroValue e).run P W = .ok z W := by
  simp only [zeroValue, Sem.run_bind, run_info hi, Result.andThen_ok, hzi]; rfl
 have hzl := Nat.eq_of_beq_eq_true hz
 have hlen : (Builtin.zeroCells z.cells n).toList.length = n * sz := by
  rw [zeroCells_len, cellsL_eq]
  show n * (cellsL z).length = _
  rw [hzl]
 have hb := (hm.own _ (hu []).isIn).2
 have hon : ∀ v ∈ (Builtin.zeroCells z.cells n).toList, v.oneCell' = true := fun v hv => by
  have := zeroCells_mem hv
  rw [cellsL_eq] at this
  exact allOne_mem hone v this
 have hst := run_storeCells_at (P := P) b o e (Builtin.zeroCells z.cells n).toList 0 ⟨cs⟩ W hb (by simp only [Nat.add_zero, hlen]; exact hle) hon
 simp only [Nat.add_zero] at hst
 by_cases hn : n = 0
 ·subst hn
  have e0 : splice cs o [] = cs := by unfold splice; simp
  refine ⟨⟨[], by simp⟩, .tuple #[], W, ?_, ?_⟩
  ·have hcl : (Builtin.clear_ #[t] ty #[.slice (some ⟨b, o, none⟩) 0 cap]).run P W = .ok (.tuple #[]) W := by
    simp [Builtin.clear_, run_und hut, Sem.run_bind, Sem.run_pure]
   simp only [execOp, resolve, List.map_toArray, List.map_cons, List.map_nil, ha.eval hx, Sem.run_bind]
   show (Sem.run P (do pure (.value (<- Builtin.clear_ #[t] ty #[.slice (some ⟨b, o, none⟩) 0 cap])) : Sem Next) W) = _
   simp only [Sem.run_bind, hcl, Result.andThen_ok]
   rfl
  ·exact hm.upd (hu []) (Same.refl _ _) (by rw [e0]; exact hb)
 ·refine ⟨⟨_, hlen⟩, .tuple #[], _, ?_, hm.put (hu _)⟩
  obtain ⟨m, rfl⟩ : ∃ m, n = m + 1 := ⟨n - 1, by omega⟩
  have hst' : (storeCells ⟨b, o, none⟩ (Builtin.zeroCells z.cells (m + 1)).toList).run P W = .ok () (W.setRow b (splice cs o (Builtin.zeroCells z.cells (m + 1)).toList).toArray) := hst
  have hcl : (Builtin.clear_ #[t] ty #[.slice (some ⟨b, o, none⟩) (m + 1) cap]).run P W = .ok (.tuple #[]) (W.setRow b (splice cs o (Builtin.zeroCells z.cells (m + 1)).toList).toArray) := by
   simp [Builtin.clear_, run_und hut, hz2, hst']
  simp only [execOp, resolve, List.map_toArray, List.map_cons, List.map_nil, ha.eval hx, Sem.run_bind]
  show (Sem.run P (do pure (.value (<- Builtin.clear_ #[t] ty #[.slice (some ⟨b, o, none⟩) (m + 1) cap])) : Sem Next) W) = _
  simp only [Sem.run_bind, hcl, Result.andThen_ok]
  rfl
/-! ## Maps as words, and back -/
theorem satW_unJ {w0 : World} {D : Nat -> Prop} {b : Nat} {R : MapEntry -> Prop} {W : World} (h : SatW w0 D (HasJ b R) mem W) (hD : ¬ D b) : ∃ ents clock, (∀ e ∈ ents, R e) /\ SatW w0 D noJ ((b, .map ⟨ents⟩ clock) :: mem) W := by
 obtain ⟨h1, h2, ents, clock, h3, h4⟩ := h.word
 refine ⟨ents, clock, h4, h.same, h.dom, ?_, fun p hp => ?_, closed_noJ, trivial⟩
 ·simp only [List.map_cons, List.nodup_cons]
  exact ⟨h2, h.nodup⟩
 ·rcases List.mem_cons.1 hp with rfl | hp
  ·exact ⟨hD, h3⟩
  ·exact h.own p hp
/-- the word's map becomes a block -/
theorem c_unJ {F : Fence} {n : Nat} {ds : List Deferred} {w0 : World} {D : Nat -> Prop} {b : Nat} {R : MapEntry -> Prop} {x : Code} (hD : ¬ D b) (k : ∀ ents clock, (∀ e ∈ ents, R e) -> RunC P N ⟨F, n, ds, w0, D, noJ⟩ x Q env ((b, .map ⟨ents⟩ clock) :: mem)) :
  RunC P N ⟨F, n, ds, w0, D, HasJ b R⟩ x Q env mem := .mk fun a W ha hm => by
 obtain ⟨ents, clock, h1, h2⟩ := satW_unJ hm hD
 exact (k ents clock h1).run a W ha h2
/-- a call wrote the map of the word, and laid blocks -/
theorem satW_J {w0 : World} {D : Nat -> Prop} {b : Nat} {R : MapEntry -> Prop} {W W' : World} {ms : List (Nat × Obj)} (hD : ¬ D b) (h : SatW w0 D (HasJ b R) mem W) (hS : Same (fun k => k ≠ b) W W') {ents : List MapEntry} {clock : Nat} (hb : W'.heap[b]? = some (.map ⟨ents⟩ clock)) (he : ∀ e ∈ ents, R e)
  (hn : (ms.map (·.1)).Nodup) (hms : ∀ p ∈ ms, W.heap.size <= p.1 /\ W'.heap[p.1]? = some p.2) : SatW w0 D (HasJ b R) (ms ++ mem) W' := by
 have h1 := satW_hasJ h hD hS hb he
 have hlt : b < W.heap.size := h.word.1
 have hfar : ∀ k, W.heap.size <= k -> k ∉ mem.map (·.1) /\ ¬ D k := fun k hk => ⟨fun hmm => by
  obtain ⟨p, hp, e⟩ := List.mem_map.1 hmm
  have := h.lt hp
  omega, fun hdd => by have := h.dom _ hdd; have := h.same.size; omega⟩
 refine ⟨h1.same, h1.dom, ?_, fun p hp => ?_, h1.closed, h1.word.1, fun hk => ?_, ents, clock, hb, he⟩
 ·rw [List.map_append, List.nodup_append]
  refine ⟨hn, h1.nodup, fun a ha c hc e => ?_⟩
  obtain ⟨p, hp, rfl⟩ := List.mem_map.1 ha
  exact (hfar _ (hms p hp).1).1 (e ▸ hc)
 ·rcases List.mem_append.1 hp with hp | hp
  ·exact ⟨(hfar _ (hms p hp).1).2, (hms p hp).2⟩
  ·exact h1.own p hp
 ·unfold keys at hk
  rw [List.map_append, List.mem_append] at hk
  rcases hk with hk | hk
  ·obtain ⟨p, hp, e⟩ := List.mem_map.1 hk
   have := (hms p hp).1
   omega
  ·exact h.word.2.1 hk
/-- a call laid blocks -/
theorem satW_L {w0 : World} {D : Nat -> Prop} {J : (Nat -> Prop) -> World -> Prop} {W W' : World} {ms : List (Nat × Obj)} (h : SatW w0 D J mem W) (hb : Below W.heap.size W W')
  (hn : (ms.map (·.1)).Nodup) (hms : ∀ p ∈ ms, W.heap.size <= p.1 /\ W'.heap[p.1]? = some p.2) : SatW w0 D J (ms ++ mem) W' := by
 have h1 := h.later hb
 have hfar : ∀ k, W.heap.size <= k -> k ∉ mem.map (·.1) /\ ¬ D k := fun k hk => ⟨fun hmm => by
  obtain ⟨p, hp, e⟩ := List.mem_map.1 hmm
  have := h.lt hp
  omega, fun hdd => by have := h.dom _ hdd; have := h.same.size; omega⟩
 refine ⟨h1.same, h1.dom, ?_, fun p hp => ?_, h.closed, h.closed _ _ _ _ h.word (Same.of_below_all hb) fun k hk => ?_⟩
 ·rw [List.map_append, List.nodup_append]
  refine ⟨hn, h1.nodup, fun a ha c hc e => ?_⟩
  obtain ⟨p, hp, rfl⟩ := List.mem_map.1 ha
  exact (hfar _ (hms p hp).1).1 (e ▸ hc)
 ·rcases List.mem_append.1 hp with hp | hp
  ·exact ⟨(hfar _ (hms p hp).1).2, (hms p hp).2⟩
  ·exact h1.own p hp
 ·unfold keys at hk
  rw [List.map_append, List.mem_append] at hk
  rcases hk with hk | hk
  ·obtain ⟨p, hp, rfl⟩ := List.mem_map.1 hk
   exact .inr (hms p hp).1
  ·exact .inl hk
/-- a closure's call that hands back blocks -/
theorem r_callvL {d : Nat} {f : FuncId} [Ent P f] {x : Operand} {args : List Operand} {ats : Array TypeId} {vs fs cs ws : List Value} {ι : Type} {v : ι -> Value} {ms : ι -> List (Nat × Obj)} (hw : wantB L env g = some true) (hd : Nat.blt d N = true)
  (hx : evOp env x = some (.func (.func f) ⟨fs⟩ ⟨cs⟩)) (ha : evOps env args some = some vs) (hws : fs ++ vs ++ cs = ws)
  (hc : ∀ W, SatW c.w0 c.D c.J mem W -> Calls P f ⟨ws⟩ W fun e W' => ∃ i, e = .returned (v i) /\ Below W.heap.size W W' /\ ((ms i).map (·.1)).Nodup /\ ∀ p ∈ ms i, W.heap.size <= p.1 /\ W'.heap[p.1]? = some p.2)
  (k : ∀ i, RunL P N c L l Q ((d, v i) :: env) (ms i ++ mem)) : RunL P N c L (⟨some d, .call ⟨.value x, ⟨args⟩, ats⟩, ty, pos, af, g⟩ :: l) Q env mem :=
 l_callv (ι := ι) (v := v) (mem' := fun i => ms i ++ mem) hw hd hx ha hws (fun W hm => (hc W hm).mono fun _ W' ⟨i, h1, h2, h3, h4⟩ => ⟨i, h1, satW_L hm h2 h3 h4⟩) k
end
end Kin
end Go

set_option maxRecDepth 100000
set_option maxHeartbeats 400000000
namespace Go.Proofs
open Go.RowKit Go.Kin Go.Kin.St Go.Kin.Ct Go.Kin.Sg
open R22 (chk chk_fine mtB mtE mt_ok mt_arg tmB metB lkB tf mtV Meets_calls netCells)
namespace R24
noncomputable def kpB (G : Gm) (l : List Int) : Bool := @decide (keptP G l) (Classical.propDecidable _)
def lessOne (l : List Int) : List Int := l.map fun x => x - 1
theorem lessOne_len {l : List Int} : (lessOne l).length = l.length := List.length_map ..
theorem lessOne_tf {l : List Int} {q : Nat} (h : q < l.length) : tf (lessOne l) q = kn l q - 1 := by
 unfold tf lessOne
 rw [List.getD_eq_getElem?_getD, List.getElem?_map, kn_at h]; rfl
theorem tm_less {l : List Int} (h : ∀ x ∈ l, 0 <= x /\ x <= 1000) : tmB (lessOne l) = true ↔ ∀ q, q < l.length -> kn l q ≠ 0 := by
 unfold tmB lessOne
 rw [List.all_eq_true]
 constructor
 ·intro hh q hq e
  have hm : kn l q ∈ l := List.mem_of_getElem? (kn_at hq)
  have := hh (kn l q - 1) (List.mem_map.2 ⟨_, hm, rfl⟩)
  rw [e] at this
  simp at this
 ·intro hh x hx
  obtain ⟨y, hy, rfl⟩ := List.mem_map.1 hx
  obtain ⟨q, hq⟩ := List.getElem?_of_mem hy
  have h1 := hh q (List.getElem?_eq_some_iff.1 hq).1
  rw [kn_get hq] at h1
  have := h y hy
  simp only [decide_eq_true_eq, Bool.and_eq_true]
  omega
open Classical in
theorem kept_eq {G : Gm} {l : List Int} (hc : chk G.n G.L = 0) (hl : l.length = G.n) (hb : ∀ x ∈ l, 0 <= x /\ x <= 1000) : (mtB G.n G.L (lessOne l) && decide (mtE G.n G.L (lessOne l) = 0)) = kpB G l := by
 obtain ⟨_, _, _, hF⟩ := chk_fine hc
 have hlen : ((lessOne l).length : Int) = G.n := by rw [lessOne_len, hl]
 unfold kpB
 by_cases ht : tmB (lessOne l) = true
 ·obtain ⟨h1, h2⟩ := mt_ok hc hlen ht
  rw [h1, h2, decide_eq_true rfl, Bool.and_true]
  have hk := (tm_less hb).1 ht
  rw [hl] at hk
  have key : metB G.L (lessOne l) = true ↔ keptP G l := by
   have hm : metB G.L (lessOne l) = true ↔ ∀ x ∈ G.L, x.lo <= kn l x.to.toNat - kn l x.fr.toNat /\ kn l x.to.toNat - kn l x.fr.toNat <= x.hi := by
    unfold metB
    rw [List.all_eq_true]
    have e : ∀ x ∈ G.L, lkB (lessOne l) x = true ↔ (x.lo <= kn l x.to.toNat - kn l x.fr.toNat /\ kn l x.to.toNat - kn l x.fr.toNat <= x.hi) := fun x hx => by
     have hf := hF x hx
     unfold Lk.Fine at hf
     unfold lkB
     rw [lessOne_tf (by omega), lessOne_tf (by omega)]
     simp only [decide_eq_true_eq]
     omega
    exact ⟨fun h x hx => (e x hx).1 (h x hx), fun h x hx => (e x hx).2 (h x hx)⟩
   rw [hm]
   exact ⟨fun h => ⟨hk, h⟩, fun h => h.2⟩
  cases hh : metB G.L (lessOne l) with
  | true => rw [decide_eq_true (key.1 hh)]
  | false => rw [decide_eq_false (fun g => by rw [key.2 g] at hh; cases hh)]
 ·obtain ⟨h1, h2⟩ := mt_arg (l := G.L) hc (t := lessOne l) (n := G.n) (.inr ht)
  rw [h1, Bool.false_and, decide_eq_false]
  intro h
  exact ht ((tm_less hb).2 (by rw [hl]; exact h.1))
structure KS where
 i : Nat
 b : Nat
 c : Nat
 r : List Value
theorem in_rows (l : List Int) : (l.map inE).flatten.length = l.length * 1 := by
 induction l with
 | nil => rfl
 | cons x l ih => rw [List.map_cons, List.flatten_cons, List.length_append, ih, List.length_cons]; show 1 + _ = _; omega
theorem lessOne_snoc {l : List Int} {i : Nat} (h : i < l.length) : lessOne (l.take (i + 1)) = lessOne (l.take i) ++ [kn l i - 1] := by
 unfold lessOne
 rw [List.take_add_one, kn_at h, List.map_append]; rfl
theorem kept_calls (b : GB) (a : Nat) (k : Int) (l : List Int) (w : World) (hn : b.n <= 6) (hl : l.length = b.n) (hx : ∀ x ∈ l, 0 <= x /\ x <= 1000) (hL : b.L.length <= 1000) (hc : chk b.n b.L = 0) (hg : GIn b a w) :
  Calls Tryz.prog 24 ⟨[.pointer (some ⟨a, 0, none⟩), .agg ⟨plC k (kn l)⟩]⟩ w fun e w' => e = .returned (.bool (kpB b.g l)) /\ Below w.heap.size w w' := by
 have hown := hg.ext
 have hLt := hg.l
 refine fun_enter Tryz.func24 rfl Tryz.ntmps24 rfl rfl (satW_nil w) ?_
 have h00 : Ext w (base w) a 0 [.int .i64 b.n] := hown.at cells_0
 have h01 : Ext w (base w) a 1 [.slice b.A b.L.length b.ca] := by
  have := hown.at (i := 1) (v := .slice b.A b.L.length b.ca) rfl
  rwa [Nat.zero_add] at this
 repeat (first|refine l_val rfl rfl (by first|exact pureEval_ok rfl|exact v_load_ext0 rfl (by assumption) rfl (by rfl)|fail) ?_|refine l_nil ?_|refine c_region ?_|refine c_seq ?_|refine x_then ?_|refine r_box rfl rfl rfl rfl (fun _ => ?_)|refine c_block ?_|refine l_val rfl rfl (v_sliceArr rfl rfl rfl rfl rfl hn) ?_|fail)
 rename_i b1
 refine c_loop (ι := KS) (fun s => s.i <= b.n /\ gOK inE 1 (lessOne (l.take s.i)) s.c s.r) (fun s => [(0, .pointer (some ⟨a, 0, none⟩)), (5, gSl (lessOne (l.take s.i)) s.b s.c), (16, .slice (some ⟨b1, 0 + 1, none⟩) b.n 6), (17, .int .i64 b.n), (18, .int .i64 s.i)])
  (fun s => (b1, .cells ⟨plC k (kn l)⟩ 54 (0, 0)) :: gM inE 3 (lessOne (l.take s.i)) s.b s.r) (fun s => b.n - s.i) ⟨0, 0, 0, []⟩ ⟨Nat.zero_le _, fun h => absurd rfl h⟩ (by repeat (first|exact .nil|refine .cons rfl (by first|rfl|(congr 1; done)|exact congrArg _ (by omega)|(simp; done)) ?_)) (by repeat (first|exact .nil|refine .keep (by first|rfl|assumption) ?_|refine .drop ?_|exact MSub.refl _)) ?_
 rintro ⟨i, bb, cc, r⟩ ⟨hi, hgr⟩
 simp only at hi hgr ⊢
 obtain ⟨A', k', hA'⟩ := gSl_len (l := lessOne (l.take i)) (b := bb) (cap := cc)
 have hlen : (lessOne (l.take i)).length = i := by rw [lessOne_len, List.length_take]; omega
 have hgr' := fun (_ : Unit) => hgr
 clear hgr
 by_cases hlt : i < b.n
 ·have hpl := plC_get (k := k) (f := kn l) (show i < 6 by omega)
  have hsn := lessOne_snoc (l := l) (i := i) (by omega)
  have hki := hx _ (List.mem_of_getElem? (kn_at (l := l) (q := i) (by omega)))
  rw [hA']
  repeat (first|refine l_val rfl rfl (by first|exact v_sub rfl rfl (by omega) (by omega)|exact pureEval_ok rfl|exact v_index rfl rfl rfl rfl (by omega) (by omega) (by with_reducible first|exact idx2 _ _|fail)|exact v_load_at rfl (by repeat constructor) rfl rfl (by first|assumption|fail)|fail) ?_|refine l_nil ?_|refine c_region ?_|refine c_seq ?_|refine x_then ?_|refine r_buildSlice rfl rfl rfl rfl rfl rfl (by rfl) (fun _ => ?_)|refine c_dec_t rfl (by first|omega|fail) ?_|refine c_block ?_|refine c_skip ?_|fail)
  refine r_appendZ (f := inE) (e := 3) (sz := 1) (xs := lessOne (l.take i)) (ys := [kn l i - 1]) (m := 1) rfl rfl (congrArg some hA'.symm) rfl rfl rfl rfl (.inr ⟨_, 0, rfl, news_own (by repeat constructor)⟩) (List.perm_append_comm (l₁ := [_, _])) (hgr' ()) in_rows rfl rfl (by omega) (by unfold maxLen; omega) (fun b8 c8 r8 hg8 => ?_)
  rw [<- hsn] at hg8 ⊢
  refine l_perm List.perm_append_comm ?_
  simp only [List.cons_append, List.nil_append]
  repeat (first|refine l_val rfl rfl (by first|exact v_add rfl rfl (by omega) (by omega)|exact pureEval_ok rfl|fail) ?_|refine l_nil ?_|refine c_region ?_|refine x_then ?_|refine x_block ?_|fail)
  exact x_back ⟨i + 1, b8, c8, r8⟩ ⟨hlt, hg8⟩ (by simp only; omega) (by repeat (first|exact .nil|refine .cons rfl (by first|rfl|(congr 1; done)|exact congrArg _ (by omega)|(simp; done)) ?_)) (by repeat (first|exact .nil|refine .keep (by first|rfl|assumption) ?_|refine .drop ?_|exact MSub.refl _))
 ·have hie : i = b.n := by omega
  subst hie
  rw [show l.take b.n = l by rw [<- hl, List.take_length]] at hA' hgr' hlen ⊢
  rw [hA']
  repeat (first|refine l_val rfl rfl (by first|exact pureEval_ok rfl|fail) ?_|refine l_nil ?_|refine c_region ?_|refine c_seq ?_|refine x_then ?_|refine c_dec_f rfl (by first|omega|fail) ?_|refine c_exit ?_|refine x_then_exit ?_|refine x_block_same ?_|refine c_reads rfl (by decide +kernel) ?_|refine q_val rfl rfl (by first|exact pureEval_ok rfl|exact v_load_ext0 rfl (by assumption) rfl (by rfl)|exact v_build rfl rfl (by rfl)|fail) ?_|fail)
  refine q_call (v := mtV b.n b.L (lessOne l)) rfl rfl rfl (fun W hW => ?_) ?_
  ·obtain ⟨A2, c2, h1, h2⟩ := at_gM (cap := cc) hW (f := inE) (sz := 1) (l := lessOne l) (b := bb) (rest := r) (fun p hp => List.mem_cons_of_mem _ hp) (fun _ => rfl)
   rw [<- hA', h1]
   exact Meets_calls b.n b.A A2 b.ca c2 b.L (lessOne l) W hL (by omega) (hLt.sat hW) h2
  unfold mtV
  have hke := kept_eq (G := b.g) (l := l) hc hl hx
  obtain ⟨x1, hx1⟩ : ∃ x, mtB b.n b.L (lessOne l) = x := ⟨_, rfl⟩
  obtain ⟨x2, hx2⟩ : ∃ x, mtE b.n b.L (lessOne l) = x := ⟨_, rfl⟩
  have hke : (x1 && decide (x2 = 0)) = kpB b.g l := by rw [<- hke, <- hx1, <- hx2]
  rw [hx1, hx2]
  clear hx1 hx2
  cases x1 with
  | false =>
   repeat (first|refine l_val rfl rfl (by first|exact pureEval_ok rfl|fail) ?_|refine l_nil ?_|refine c_region ?_|refine c_seq ?_|refine x_then ?_|refine l_skip rfl rfl ?_|refine c_ret ?_|refine q_val rfl rfl (by first|exact pureEval_ok rfl|fail) ?_|refine q_nil ?_|fail)
   exact x_ret rfl rfl (by repeat (first|exact .nil|(apply Res.tmp; rfl)|(apply Res.cell; rfl; exact (by repeat constructor); rfl; rfl))) rfl (fun W hW => ⟨by rw [<- hke]; rfl, hW.below⟩)
  | true =>
   repeat (first|refine l_val rfl rfl (by first|exact pureEval_ok rfl|fail) ?_|refine l_nil ?_|refine c_region ?_|refine c_seq ?_|refine x_then ?_|refine c_ret ?_|refine q_val rfl rfl (by first|exact pureEval_ok rfl|fail) ?_|refine q_nil ?_|fail)
   exact x_ret rfl rfl (by repeat (first|exact .nil|(apply Res.tmp; rfl)|(apply Res.cell; rfl; exact (by repeat constructor); rfl; rfl))) rfl (fun W hW => ⟨by rw [<- hke]; rfl, hW.below⟩)
end R24
end Go.Proofs

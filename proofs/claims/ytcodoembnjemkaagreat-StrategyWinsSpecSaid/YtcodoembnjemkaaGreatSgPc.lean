/- Lists of numbers: what is of a kind is taken out. -/
import Derived.Test.YtcodoembnjemkaaGreatSgPa
import Derived.Test.YtcodoembnjemkaaGreatCtRow
import Derived.Test.YtcodoembnjemkaaGreatStAcc
set_option maxRecDepth 100000
set_option maxHeartbeats 400000000
set_option linter.unusedSectionVars false
set_option linter.unusedVariables false
set_option linter.unusedSimpArgs false
namespace Go.Proofs
open Go.RowKit Go.Kin Go.Kin.St Go.Kin.Ct Go.Kin.Sg
namespace R24
theorem flI_map {l : List Int} : flI l = l.map fun x => Value.int .i64 x := by
 unfold flI
 induction l with
 | nil => rfl
 | cons x l ih => rw [List.map_cons, List.flatten_cons, ih]; rfl
theorem delete_calls (g : Nat) [Ent Tryz.prog g] (fs cs : List Value) (p : Int -> Bool) (b cap : Nat) (l : List Int) (rest : List Value) (w : World) (hgr : Grow 1 l.length (flI l) cap rest) (hl : l.length <= 1000) (hb : w.heap[b]? = some (.cells ⟨flI l ++ rest⟩ 3 (0, 0)))
  (hp : ∀ x ∈ l, ∀ W, Same (allBut w [b]) w W -> Calls Tryz.prog g ⟨fs ++ [.int .i64 x] ++ cs⟩ W fun e w' => e = .returned (.bool (p x)) /\ Below W.heap.size W w') :
  Calls Tryz.prog 41 ⟨[.slice (some ⟨b, 0, none⟩) l.length cap, .func (.func g) ⟨fs⟩ ⟨cs⟩]⟩ w
   (FrQ [(b, .cells ⟨flI l ++ rest⟩ 3 (0, 0))] (fun _ : { r : List Value // Grow 1 (l.filter fun x => !p x).length (flI (l.filter fun x => !p x)) cap r } => .slice (some ⟨b, 0, none⟩) (l.filter fun x => !p x).length cap) (fun i => [(b, .cells ⟨flI (l.filter fun x => !p x) ++ i.1⟩ 3 (0, 0))]) w) := by
 have hsat : SatW w (allBut w ([(b, Obj.cells ⟨flI l ++ rest⟩ 3 (0, 0))].map (·.1))) noJ [(b, Obj.cells ⟨flI l ++ rest⟩ 3 (0, 0))] w := frQ_start (by simp) (by simpa using hb)
 have hcl := hgr.le
 have hcm := hgr.max
 have hat : ∀ {mem : List (Nat × Obj)} {W : World}, SatW w (allBut w [b]) noJ mem W -> (b, Obj.cells ⟨flI l ++ rest⟩ 3 (0, 0)) ∈ mem -> At W (some ⟨b, 0, none⟩) 1 (l.map inE) := fun {mem W} hW hm k vs hk => by
  refine ⟨b, 0, rfl, fun j v hj => ?_⟩
  rw [List.getElem?_map] at hk
  obtain ⟨y, hy, rfl⟩ := Option.map_eq_some_iff.1 hk
  cases j with
  | succ j => cases hj
  | zero =>
   cases hj
   rw [show 0 + k * 1 + 0 = k by omega, hW.cellAt hm]
   exact flI_get hy _
 refine fun_enter Tryz.func41 rfl Tryz.ntmps41 rfl rfl hsat ?_
 repeat (first|refine l_val rfl rfl (by first|exact pureEval_ok rfl|fail) ?_|refine l_nil ?_|refine c_region ?_|refine c_seq ?_|refine x_then ?_|fail)
 refine r_callI (ι := IdxOf p l) (v := fun r => .int .i64 r.r) rfl rfl rfl (fun W hW => indexF_calls g fs cs p (some ⟨b, 0, none⟩) cap l W (hat hW (by repeat constructor)) (by omega) fun x hx W' hW' => hp x hx W' (hW.same.trans (Same.of_below_all hW'))) (fun r => ?_)
 rcases r.ok with ⟨hr, hno⟩ | ⟨i, hr, hil, hF, y, hy, hpy⟩
 ·have hf : (l.filter fun x => !p x) = l := List.filter_eq_self.2 fun x hx => by rw [hno x hx]; rfl
  rw [hr, hf]
  repeat (first|refine l_val rfl rfl (by first|exact pureEval_ok rfl|fail) ?_|refine l_nil ?_|refine c_region ?_|refine c_seq ?_|refine x_then ?_|refine c_true rfl ?_|refine c_ret ?_|refine x_then_ret ?_|fail)
  exact x_ret rfl rfl (by repeat (first|exact .nil|(apply Res.tmp; rfl)|(apply Res.cell; rfl; exact (by repeat constructor); rfl; rfl))) rfl (fun W hW => ⟨⟨rest, hgr⟩, rfl, hW⟩)
 ·rw [hr]
  have hri : (i : Int) ≠ -1 := by omega
  obtain ⟨q, hq⟩ : ∃ q : Int -> Bool, q = fun x => !p x := ⟨_, rfl⟩
  have hf0 : (l.take (i + 1)).filter q = l.take i := by
   rw [List.take_add_one, hy, List.filter_append, List.filter_eq_self.2 fun x hx => by rw [hq]; simp [hF x hx]]
   simp [hq, hpy]
  rw [<- hq]
  refine l_part [] (mem' := [(b, .cells ⟨flI ((l.take (i + 1)).filter q ++ l.drop ((l.take (i + 1)).filter q).length) ++ rest⟩ 3 (0, 0))]) (List.Perm.of_eq (by rw [hf0, List.length_take, show min i l.length = i by omega, List.take_append_drop]; rfl)) ?_
  repeat (first|refine l_val rfl rfl (by first|exact v_add rfl rfl (by omega) (by omega)|exact pureEval_ok rfl|fail) ?_|refine l_nil ?_|refine c_region ?_|refine c_seq ?_|refine x_then ?_|refine c_false rfl ?_|refine c_block ?_|refine c_skip ?_|fail)
  refine c_loop (ι := Nat) (fun j => i + 1 <= j /\ j <= l.length /\ ((l.take j).filter q).length + 1 <= j) (fun j => [(0, .slice (some ⟨b, 0, none⟩) l.length cap), (1, .func (.func g) ⟨fs⟩ ⟨cs⟩), (5, .int .i64 ((l.take j).filter q).length), (6, .int .i64 j)])
   (fun j => [(b, .cells ⟨flI ((l.take j).filter q ++ l.drop ((l.take j).filter q).length) ++ rest⟩ 3 (0, 0))]) (fun j => l.length - j) (i + 1) ⟨Nat.le_refl _, by omega, by rw [hf0, List.length_take]; omega⟩
   (by
    have hlen : ((l.take (i + 1)).filter q).length = i := by rw [hf0, List.length_take]; omega
    rw [hlen]
    exact (by repeat (first|exact .nil|refine .cons rfl (by first|rfl|(congr 1; done)|exact congrArg _ (by omega)|(simp; done)) ?_))) (MSub.refl _) ?_
  rintro j ⟨hj1, hj2, hj3⟩
  obtain ⟨out, hout⟩ : ∃ out, (l.take j).filter q = out := ⟨_, rfl⟩
  rw [hout] at hj3 ⊢
  by_cases hlt : j < l.length
  ·obtain ⟨x, hx⟩ : ∃ x, l[j]? = some x := ⟨_, List.getElem?_eq_getElem hlt⟩
   have hxm := List.mem_of_getElem? hx
   have hcx : (flI (out ++ l.drop out.length) ++ rest)[j]? = some (.int .i64 x) := flI_get (by rw [List.getElem?_append_right (by omega), List.getElem?_drop, show out.length + (j - out.length) = j by omega, hx]) rest
   repeat (first|refine l_val rfl rfl (by first|exact pureEval_ok rfl|exact v_index rfl rfl rfl rfl (by omega) (by omega) (by with_reducible first|exact idx1 _|fail)|exact v_load_at rfl (by repeat constructor) rfl rfl (by first|assumption|fail)|fail) ?_|refine l_nil ?_|refine c_region ?_|refine c_seq ?_|refine x_then ?_|refine c_dec_t rfl (by first|omega|fail) ?_|refine c_block ?_|refine c_skip ?_|fail)
   refine r_callv rfl rfl rfl rfl rfl (fun W hW => hp x hxm W hW.same) ?_
   cases hpx : p x with
   | true =>
    have hn : (l.take (j + 1)).filter q = out := by
     rw [List.take_add_one, hx, List.filter_append, hout]; simp [hq, hpx]
    repeat (first|refine l_val rfl rfl (by first|exact v_add rfl rfl (by omega) (by omega)|exact pureEval_ok rfl|fail) ?_|refine l_nil ?_|refine c_region ?_|refine x_then ?_|refine c_false rfl ?_|refine c_skip ?_|refine x_block ?_|fail)
    exact x_back (j + 1) ⟨by omega, hlt, by rw [hn]; omega⟩ (by omega) (by rw [hn]; exact (by repeat (first|exact .nil|refine .cons rfl (by first|rfl|(congr 1; done)|exact congrArg _ (by omega)|(simp; done)) ?_))) (by rw [hn]; exact MSub.refl _)
   | false =>
    have hn : (l.take (j + 1)).filter q = out ++ [x] := by
     rw [List.take_add_one, hx, List.filter_append, hout]; simp [hq, hpx]
    have hst : (flI (out ++ l.drop out.length) ++ rest).set out.length (.int .i64 x) = flI ((out ++ [x]) ++ l.drop (out.length + 1)) ++ rest := by
     rw [flI_map, flI_map, List.set_append_left _ _ (by simp; omega), List.map_append, List.set_append_right _ _ (by simp), List.length_map, Nat.sub_self, List.drop_eq_getElem_cons (show out.length < l.length by omega), List.map_cons, List.set_cons_zero]
     simp
    repeat (first|refine r_store_at rfl rfl rfl rfl rfl rfl (by repeat constructor) (by rw [List.length_append, flI_map, List.length_map, List.length_append, List.length_drop]; omega) hst ?_|refine l_val rfl rfl (by first|exact v_add rfl rfl (by omega) (by omega)|exact pureEval_ok rfl|exact v_index rfl rfl rfl rfl (by omega) (by omega) (by with_reducible first|exact idx1 _|fail)|fail) ?_|refine l_nil ?_|refine c_region ?_|refine c_seq ?_|refine x_then ?_|refine c_true rfl ?_|refine x_block ?_|fail)
    exact x_back (j + 1) ⟨by omega, hlt, by rw [hn, List.length_append, List.length_cons, List.length_nil]; omega⟩ (by omega) (by rw [hn, List.length_append]; exact (by repeat (first|exact .nil|refine .cons rfl (by first|rfl|(congr 1; done)|exact congrArg _ (by omega)|(simp; done)) ?_))) (by rw [hn, List.length_append]; exact MSub.refl _)
  ·have hjl : j = l.length := by omega
   subst hjl
   rw [List.take_length] at hout
   rw [hout]
   have hkl : out.length < l.length := by omega
   have hl1 : (flI out).length = out.length := by rw [flI_map, List.length_map]
   have hl2 : (flI (l.drop out.length)).length = l.length - out.length := by rw [flI_map, List.length_map, List.length_drop]
   have hfl : flI (out ++ l.drop out.length) ++ rest = flI out ++ (flI (l.drop out.length) ++ rest) := by rw [flI_map, flI_map, flI_map, List.map_append, List.append_assoc]
   repeat (first|refine l_val rfl rfl (by first|exact pureEval_ok rfl|fail) ?_|refine l_nil ?_|refine c_region ?_|refine c_seq ?_|refine x_then ?_|refine c_dec_f rfl (by first|omega|fail) ?_|refine c_exit ?_|refine x_then_exit ?_|refine x_block_same ?_|refine l_val rfl rfl (v_sliceL rfl rfl rfl rfl rfl (by omega) (by omega)) ?_|fail)
   refine r_clear rfl rfl rfl rfl rfl rfl (fun _ => Upd.head) (by rw [hfl, List.length_append, List.length_append, hl1, hl2]; omega) (fun zs hz => ?_)
   have hsp : splice (flI (out ++ l.drop out.length) ++ rest) (0 + out.length * 1) zs = flI out ++ (zs ++ rest) := by
    rw [hfl, Nat.zero_add, Nat.mul_one]
    have hd : (flI out ++ (flI (l.drop out.length) ++ rest)).drop (out.length + zs.length) = rest := by
     rw [hz, <- List.append_assoc, Nat.mul_one]
     exact List.drop_left' (by rw [List.length_append, hl1, hl2])
    have ht : (flI out ++ (flI (l.drop out.length) ++ rest)).take out.length = flI out := List.take_left' hl1
    unfold splice
    rw [hd, ht, List.append_assoc]
   rw [hsp]
   repeat (first|refine l_val rfl rfl (by first|exact pureEval_ok rfl|fail) ?_|refine l_nil ?_|refine c_region ?_|refine c_seq ?_|refine x_then ?_|refine c_ret ?_|refine l_val rfl rfl (v_sliceH rfl rfl rfl rfl rfl (by omega)) ?_|fail)
   have hgl := hgr.all
   have hll : (flI l).length = l.length := by rw [flI_map, List.length_map]
   rw [List.length_append, hll] at hgl
   exact x_ret rfl rfl (by repeat (first|exact .nil|(apply Res.tmp; rfl)|(apply Res.cell; rfl; exact (by repeat constructor); rfl; rfl))) rfl (fun W hW => ⟨⟨zs ++ rest, ⟨by rw [hl1]; omega, by rw [List.length_append, List.length_append, hl1, hz]; omega, by omega, hcm⟩⟩, rfl, hW⟩)
end R24
end Go.Proofs

namespace Go.Kin.Sg
open Go.Kin.St Go.Kin.Ct
theorem wt_some {C : List Lk} {k : Int} {f : Nat -> Int} {q : Nat} {m : Int} {x : Lk} (h : wtF C k f q = some (m, x)) : lnk C q = some x /\ f q = 0 /\ f x.fr.toNat ≠ 0 /\ m = k + 1 - f x.fr.toNat := by
 unfold wtF at h
 cases hl : lnk C q with
 | none => rw [hl] at h; cases h
 | some y =>
  rw [hl] at h
  simp only at h
  by_cases hc : f q = 0 /\ f y.fr.toNat ≠ 0
  ·rw [if_pos hc] at h
   simp only [Option.some.injEq, Prod.mk.injEq] at h
   obtain ⟨h1, rfl⟩ := h
   exact ⟨rfl, hc.1, hc.2, h1.symm⟩
  ·rw [if_neg hc] at h; cases h
theorem wt_of {C : List Lk} {k : Int} {f : Nat -> Int} {q : Nat} {x : Lk} (h1 : lnk C q = some x) (h2 : f q = 0) (h3 : f x.fr.toNat ≠ 0) : wtF C k f q = some (k + 1 - f x.fr.toNat, x) := by
 unfold wtF; rw [h1]; exact if_pos ⟨h2, h3⟩
theorem mayB_iff {G : Gm} {k : Nat} {l : List Int} {q : Nat} : mayB G k l q = true ↔ ∃ x, lnk G.C q = some x /\ kn l q = 0 /\ kn l x.fr.toNat ≠ 0 /\ x.lo <= k + 1 - kn l x.fr.toNat /\ (k : Int) + 1 - kn l x.fr.toNat <= x.hi := by
 unfold mayB mayF
 constructor
 ·intro h
  cases hw : wtF G.C k (kn l) q with
  | none => rw [hw] at h; cases h
  | some p =>
   obtain ⟨m, x⟩ := p
   rw [hw] at h
   obtain ⟨h1, h2, h3, rfl⟩ := wt_some hw
   simp only [Bool.and_eq_true, decide_eq_true_eq] at h
   exact ⟨x, h1, h2, h3, h.1, h.2⟩
 ·rintro ⟨x, h1, h2, h3, h4, h5⟩
  rw [wt_of h1 h2 h3]
  simp only [Bool.and_eq_true, decide_eq_true_eq]
  exact ⟨h4, h5⟩
theorem dueB_iff {G : Gm} {k : Nat} {l : List Int} {q : Nat} : dueB G k l q = true ↔ ∃ x, lnk G.C q = some x /\ kn l q = 0 /\ kn l x.fr.toNat ≠ 0 /\ x.lo <= k + 1 - kn l x.fr.toNat /\ (k : Int) + 1 - kn l x.fr.toNat = x.hi := by
 unfold dueB dueF
 constructor
 ·intro h
  cases hw : wtF G.C k (kn l) q with
  | none => rw [hw] at h; cases h
  | some p =>
   obtain ⟨m, x⟩ := p
   rw [hw] at h
   obtain ⟨h1, h2, h3, rfl⟩ := wt_some hw
   simp only [Bool.and_eq_true, decide_eq_true_eq] at h
   exact ⟨x, h1, h2, h3, h.1, h.2⟩
 ·rintro ⟨x, h1, h2, h3, h4, h5⟩
  rw [wt_of h1 h2 h3]
  simp only [Bool.and_eq_true, decide_eq_true_eq]
  exact ⟨h4, h5⟩
theorem may_mem {G : Gm} {k : Nat} {l : List Int} {q : Nat} : q ∈ may G k l ↔ q < G.n /\ mayB G k l q = true := by unfold may; rw [List.mem_filter, List.mem_range]
theorem due_mem {G : Gm} {k : Nat} {l : List Int} {q : Nat} : q ∈ due G k l ↔ q < G.n /\ dueB G k l q = true := by unfold due; rw [List.mem_filter, List.mem_range]
/-! ## More ticks -/
/-! ## Wider links, narrower called links -/
inductive All2 {α β : Type} (R : α -> β -> Prop) : List α -> List β -> Prop
 | nil : All2 R [] []
 | cons {x y l m} : R x y -> All2 R l m -> All2 R (x :: l) (y :: m)
end Go.Kin.Sg

namespace Go.Kin.Sg
open Go.Kin.St Go.Kin.Ct
def ix (C : List Lk) (q : Nat) : Nat := (into C (q : Int)).getD 0
def frO (C : List Lk) (q : Nat) : Nat := (frm C (ix C q)).toNat
/-- the called points that occur at a tick, with durations -/
def occ (G : Gm) (wt : List Int) (k : Nat) (l : List Int) : List Nat := (may G k l).filter fun q => decide ((k : Int) + 1 - kn l (frO G.C q) = wt.getD (ix G.C q) 0)
/-- what the desk does -/
def own (G : Gm) (t : Tab) (k : Nat) (l : List Int) : List Nat := (doD t k l).filter fun q => decide (q ∈ free G l)
def plS (G : Gm) (wt : List Int) (t : Tab) (k : Nat) (l : List Int) : List Int := put (put l (occ G wt k l) (k + 1)) (own G t k (put l (occ G wt k l) (k + 1))) (k + 1)
def plF (G : Gm) (wt : List Int) (t : Tab) : Nat -> Nat -> List Int -> List Int
 | 0, _, l => l
 | f + 1, k, l => plF G wt t f (k + 1) (plS G wt t k l)
def plA (G : Gm) (wt : List Int) (t : Tab) : List Int := plF G wt t (G.T + 1) 0 (List.replicate G.n 0)
/-- what durations a play has met -/
structure Dj (G : Gm) (wt : List Int) (k : Nat) (l : List Int) : Prop where
 len : l.length = G.n
 bd : ∀ q, 0 <= kn l q /\ kn l q <= k
 yes : ∀ q i x, q < G.n -> into G.C (q : Int) = some i -> G.C[i]? = some x -> kn l q ≠ 0 -> kn l x.fr.toNat ≠ 0 /\ kn l q = kn l x.fr.toNat + wt.getD i 0
 no : ∀ q i x, q < G.n -> into G.C (q : Int) = some i -> G.C[i]? = some x -> kn l q = 0 -> kn l x.fr.toNat ≠ 0 -> (k : Int) + 1 - kn l x.fr.toNat <= wt.getD i 0
/-- durations are right -/
def Dur (G : Gm) (wt : List Int) : Prop := ∀ i x, G.C[i]? = some x -> x.lo <= wt.getD i 0 /\ wt.getD i 0 <= x.hi /\ 1 <= x.lo /\ x.fr.toNat < G.n
theorem lnk_of {C : List Lk} {q i : Nat} {x : Lk} (h1 : into C (q : Int) = some i) (h2 : C[i]? = some x) : lnk C q = some x := by unfold lnk; rw [h1]; exact h2
theorem occ_mem {G : Gm} {wt : List Int} {k : Nat} {l : List Int} {q : Nat} : q ∈ occ G wt k l ↔ q ∈ may G k l /\ (k : Int) + 1 - kn l (frO G.C q) = wt.getD (ix G.C q) 0 := by
 unfold occ; rw [List.mem_filter, decide_eq_true_eq]
theorem ix_of {C : List Lk} {q i : Nat} {x : Lk} (h1 : into C (q : Int) = some i) (h2 : C[i]? = some x) : ix C q = i /\ frO C q = x.fr.toNat := by
 have e : ix C q = i := by unfold ix; rw [h1]; rfl
 refine ⟨e, ?_⟩
 unfold frO; rw [e]; unfold frm; rw [h2]
theorem lnk_some {C : List Lk} {q : Nat} {x : Lk} (h : lnk C q = some x) : ∃ i, into C (q : Int) = some i /\ C[i]? = some x := by
 unfold lnk at h
 cases hi : into C (q : Int) with
 | none => rw [hi] at h; cases h
 | some i => rw [hi] at h; exact ⟨i, rfl, h⟩
theorem occ_ch {G : Gm} {wt : List Int} {k : Nat} {l : List Int} (hw : Dur G wt) (hj : Dj G wt k l) : Ch G k l (occ G wt k l) := by
 refine ⟨List.filter_sublist, fun q hq => occ_mem.2 ⟨due_may hq, ?_⟩⟩
 obtain ⟨hn, h⟩ := due_mem.1 hq
 obtain ⟨x, h1, h2, h3, h4, h5⟩ := dueB_iff.1 h
 obtain ⟨i, g1, g2⟩ := lnk_some h1
 obtain ⟨e1, e2⟩ := ix_of g1 g2
 rw [e1, e2]
 have := hj.no q i x hn g1 g2 h2 h3
 have := hw i x g2
 omega
theorem kn_put_bd {l : List Int} {S : List Nat} {k : Nat} (h : ∀ q, 0 <= kn l q /\ kn l q <= k) : ∀ q, 0 <= kn (put l S (k + 1)) q /\ kn (put l S (k + 1)) q <= (k : Int) + 1 := fun q => by
 by_cases hq : q < l.length
 ·rw [put_kn hq]
  have := h q
  split <;> omega
 ·rw [kn_over (by rw [put_len]; omega)]; omega
/-- a step keeps to the durations, where the desk does what is free alone -/
theorem dj_step {G : Gm} {wt : List Int} {k : Nat} {l : List Int} {D : List Nat} (hw : Dur G wt) (hj : Dj G wt k l) (hD : ∀ q ∈ D, q ∈ free G (put l (occ G wt k l) (k + 1))) : Dj G wt (k + 1) (put (put l (occ G wt k l) (k + 1)) D (k + 1)) := by
 obtain ⟨l1, hl1⟩ : ∃ l1, put l (occ G wt k l) ((k : Int) + 1) = l1 := ⟨_, rfl⟩
 have hlen1 : l1.length = G.n := by rw [<- hl1, put_len, hj.len]
 have hk1 : ∀ q, q < G.n -> kn l1 q = if q ∈ occ G wt k l then (k : Int) + 1 else kn l q := fun q hq => by rw [<- hl1, put_kn (by rw [hj.len]; exact hq)]
 have hb1 : ∀ q, 0 <= kn l1 q /\ kn l1 q <= (k : Int) + 1 := by rw [<- hl1]; exact kn_put_bd hj.bd
 rw [hl1] at hD ⊢
 have hk2 : ∀ q, q < G.n -> kn (put l1 D ((k : Int) + 1)) q = if q ∈ D then (k : Int) + 1 else kn l1 q := fun q hq => put_kn (by rw [hlen1]; exact hq)
 have hDC : ∀ (q i : Nat), into G.C (q : Int) = some i -> q ∉ D := fun q i h hm => by
  have := (free_mem.1 (hD q hm)).2.1
  rw [h] at this; cases this
 -- what is known stays
 have hst1 : ∀ q, q < G.n -> kn l q ≠ 0 -> kn l1 q = kn l q := fun q hq h => by
  rw [hk1 q hq, if_neg]
  intro hm
  obtain ⟨x, _, h2, _⟩ := mayB_iff.1 (may_mem.1 (occ_mem.1 hm).1).2
  exact h h2
 have hst2 : ∀ q, q < G.n -> kn l1 q ≠ 0 -> kn (put l1 D ((k : Int) + 1)) q = kn l1 q := fun q hq h => by
  rw [hk2 q hq, if_neg]
  intro hm
  exact h (free_mem.1 (hD q hm)).2.2
 refine ⟨by rw [put_len, hlen1], fun q => ?_, fun q i x hq h1 h2 h0 => ?_, fun q i x hq h1 h2 h0 hf => ?_⟩
 ·by_cases hq : q < G.n
  ·rw [hk2 q hq]
   have := hb1 q
   push_cast
   split <;> omega
  ·rw [kn_over (by rw [put_len, hlen1]; omega)]; omega
 ·have hfn := (hw i x h2).2.2.2
  rw [hk2 q hq, if_neg (hDC q i h1)] at h0 ⊢
  have key : kn l1 x.fr.toNat ≠ 0 /\ kn l1 q = kn l1 x.fr.toNat + wt.getD i 0 := by
   by_cases hql : kn l q = 0
   ·rw [hk1 q hq] at h0 ⊢
    have hm : q ∈ occ G wt k l := Classical.byContradiction fun h => by rw [if_neg h] at h0; exact h0 hql
    rw [if_pos hm]
    obtain ⟨g1, g2⟩ := occ_mem.1 hm
    obtain ⟨x', g3, _, g5, _⟩ := mayB_iff.1 (may_mem.1 g1).2
    rw [lnk_of h1 h2] at g3
    cases g3
    obtain ⟨e1, e2⟩ := ix_of h1 h2
    rw [e1, e2] at g2
    rw [hst1 _ hfn g5]
    exact ⟨g5, by omega⟩
   ·obtain ⟨g1, g2⟩ := hj.yes q i x hq h1 h2 hql
    rw [hst1 q hq hql, hst1 _ hfn g1]
    exact ⟨g1, g2⟩
  rw [hst2 _ hfn key.1]
  exact key
 ·obtain ⟨w1, w2, w3, hfn⟩ := hw i x h2
  rw [hk2 q hq, if_neg (hDC q i h1)] at h0
  have hqm : q ∉ occ G wt k l := fun hm => by rw [hk1 q hq, if_pos hm] at h0; omega
  have hql : kn l q = 0 := by rw [hk1 q hq, if_neg hqm] at h0; exact h0
  by_cases hfl : kn l x.fr.toNat = 0
  ·have : kn (put l1 D ((k : Int) + 1)) x.fr.toNat = (k : Int) + 1 := by
    rw [hk2 _ hfn] at hf ⊢
    by_cases hm : x.fr.toNat ∈ D
    ·rw [if_pos hm]
    ·rw [if_neg hm] at hf ⊢
     rw [hk1 _ hfn] at hf ⊢
     by_cases hm2 : x.fr.toNat ∈ occ G wt k l
     ·rw [if_pos hm2]
     ·rw [if_neg hm2] at hf; exact absurd hfl hf
   rw [this]; push_cast; omega
  ·have e1 := hst1 _ hfn hfl
   have e2 := hst2 _ hfn (by rw [e1]; exact hfl)
   rw [e2, e1]
   have h3 := hj.no q i x hq h1 h2 hql hfl
   have h4 : (k : Int) + 1 - kn l x.fr.toNat ≠ wt.getD i 0 := fun e => by
    obtain ⟨e1, e2⟩ := ix_of h1 h2
    refine hqm (occ_mem.2 ⟨may_mem.2 ⟨hq, mayB_iff.2 ⟨x, lnk_of h1 h2, hql, hfl, by omega, by omega⟩⟩, ?_⟩)
    rw [e1, e2]; exact e
   push_cast; omega
theorem own_all {G : Gm} {t : Tab} {k : Nat} {l : List Int} (h : ∀ x ∈ doD t k l, x ∈ free G l) : own G t k l = doD t k l := List.filter_eq_self.2 fun x hx => decide_eq_true (h x hx)
/-- a strategy that wins lasts -/
theorem lasts {G : Gm} {wt : List Int} {t : Tab} (hw : Dur G wt) : ∀ {f k : Nat} {l : List Int}, Wn G t f k l -> Dj G wt k l -> keptP G (plF G wt t f k l) /\ Dj G wt (k + f) (plF G wt t f k l)
 | 0, k, l, h, hj => ⟨h, hj⟩
 | f + 1, k, l, h, hj => by
  obtain ⟨h1, h2⟩ := h _ (occ_ch hw hj)
  have e : plS G wt t k l = put (put l (occ G wt k l) (k + 1)) (doD t k (put l (occ G wt k l) (k + 1))) (k + 1) := by unfold plS; rw [own_all h1]
  rw [plF, e, show k + (f + 1) = (k + 1) + f by omega]
  exact lasts hw h2 (dj_step hw hj h1)
theorem kn_zero {n q : Nat} : kn (List.replicate n 0) q = 0 := by
 unfold kn
 rw [List.getD_eq_getElem?_getD, List.getElem?_replicate]
 split <;> rfl
end Go.Kin.Sg

set_option maxRecDepth 100000
set_option maxHeartbeats 400000000
namespace Go.Proofs
open Go.RowKit Go.Kin Go.Kin.St Go.Kin.Ct Go.Kin.Sg
namespace R24
theorem c_lone {P : Program} {N : Nat} {c : Cx} {Q : Exit -> Act -> World -> Prop} {env : List (Nat × Value)} {mem : List (Nat × Obj)} {id : Nat} {ops : Array Oper} {dr : Bool} (k : RunC P N c (.region id ops dr) Q env mem) : RunC P N c (.region id ops dr) Q env mem := k
def castL (l : List Nat) : List Int := l.map fun x : Nat => (x : Int)
theorem castL_len (l : List Nat) : (castL l).length = l.length := List.length_map ..
theorem castL_rows (l : List Nat) : (castL l).map inE = l.map nE := by unfold castL; rw [List.map_map]; rfl
theorem castL_flI (l : List Nat) : flI (castL l) = (l.map nE).flatten := by unfold flI; rw [castL_rows]
theorem castL_filter {l : List Nat} {p : Int -> Bool} {q : Nat -> Bool} (h : ∀ x ∈ l, p (x : Int) = q x) : (castL l).filter p = castL (l.filter q) := by
 unfold castL
 rw [List.filter_map]
 congr 1
 exact List.filter_congr h
theorem castL_mem {l : List Nat} {x : Int} (h : x ∈ castL l) : ∃ y ∈ l, (y : Int) = x := List.mem_map.1 h
theorem castL_contains {l : List Nat} {x : Nat} : (castL l).contains (x : Int) = decide (x ∈ l) := by
 rw [Bool.eq_iff_iff, List.contains_iff_mem, decide_eq_true_iff]
 constructor
 ·intro h
  obtain ⟨y, hy, e⟩ := castL_mem h
  rwa [<- Int.ofNat.inj e]
 ·intro h; exact List.mem_map.2 ⟨x, h, rfl⟩
theorem clone0_calls (w : World) : Calls Tryz.prog 43 ⟨[.slice none 0 0]⟩ w fun e w' => e = .returned (.slice none 0 0) /\ Below w.heap.size w w' := by
 refine fun_enter Tryz.func43 rfl Tryz.ntmps43 rfl rfl (satW_nil w) ?_
 repeat (first|refine l_val rfl rfl (by first|exact pureEval_ok rfl|fail) ?_|refine l_nil ?_|refine c_region ?_|refine c_seq ?_|refine x_then ?_|refine c_true rfl ?_|refine c_ret ?_|refine x_then_ret ?_|refine l_val rfl rfl (v_eqNilS0 rfl rfl) ?_|fail)
 exact x_ret rfl rfl (by repeat (first|exact .nil|(apply Res.tmp; rfl)|(apply Res.cell; rfl; exact (by repeat constructor); rfl; rfl))) rfl (fun W hW => ⟨rfl, hW.below⟩)
theorem delete0_calls (g : Nat) [Ent Tryz.prog g] (fs cs : List Value) (w : World) :
  Calls Tryz.prog 41 ⟨[.slice none 0 0, .func (.func g) ⟨fs⟩ ⟨cs⟩]⟩ w fun e w' => e = .returned (.slice none 0 0) /\ Below w.heap.size w w' := by
 refine fun_enter Tryz.func41 rfl Tryz.ntmps41 rfl rfl (satW_nil w) ?_
 repeat (first|refine l_val rfl rfl (by first|exact pureEval_ok rfl|fail) ?_|refine l_nil ?_|refine c_region ?_|refine c_seq ?_|refine x_then ?_|fail)
 refine r_callI (ι := IdxOf (fun _ => false) []) (v := fun r => .int .i64 r.r) rfl rfl rfl (fun W hW => indexF_calls g fs cs (fun _ => false) none 0 [] W (fun i r h => by simp at h) (by simp) fun x hx => by cases hx) (fun r => ?_)
 rcases r.ok with ⟨hr, hno⟩ | ⟨i, hr, hil, hF, y, hy, hpy⟩
 ·rw [hr]
  repeat (first|refine l_val rfl rfl (by first|exact pureEval_ok rfl|fail) ?_|refine l_nil ?_|refine c_region ?_|refine c_seq ?_|refine x_then ?_|refine c_true rfl ?_|refine c_ret ?_|refine x_then_ret ?_|fail)
  exact x_ret rfl rfl (by repeat (first|exact .nil|(apply Res.tmp; rfl)|(apply Res.cell; rfl; exact (by repeat constructor); rfl; rfl))) rfl (fun W hW => ⟨rfl, hW.below⟩)
 ·simp at hy
/-! ## Taking out, where the order is drawn -/
def dlV (m : Nat) (vs : Array Value) (_ : Pi) : Value := match vs with | ⟨.slice A _ cap :: _⟩ => .slice A m cap | _ => undef
def dlO (fl : List Int) (_ : Array Value) (π : Pi) : Obj := .cells ⟨flI fl ++ restF 1 fl.length π.rest⟩ 3 (0, 0)
theorem delW {w0 : World} {D : Nat -> Prop} (g : Nat) [Ent Tryz.prog g] (fs cs : List Value) (p : Int -> Bool) (b cap : Nat) (l : List Int) (rest : List Value) (w : World) (hgr : Grow 1 l.length (flI l) cap rest) (hl : l.length <= 1000) (hb : w.heap[b]? = some (.cells ⟨flI l ++ rest⟩ 3 (0, 0)))
  (hp : ∀ x ∈ l, ∀ W, Same (allBut w [b]) w W -> Calls Tryz.prog g ⟨fs ++ [.int .i64 x] ++ cs⟩ W fun e w' => e = .returned (.bool (p x)) /\ Below W.heap.size W w') :
  Calls Tryz.prog 41 ⟨[.slice (some ⟨b, 0, none⟩) l.length cap, .func (.func g) ⟨fs⟩ ⟨cs⟩]⟩ w fun e W' => ∃ π, e = .returned (dlV (l.filter fun x => !p x).length ⟨[.slice (some ⟨b, 0, none⟩) l.length cap, .func (.func g) ⟨fs⟩ ⟨cs⟩]⟩ π) /\
   ∀ m, SatW w0 D noJ ((b, .cells ⟨flI l ++ rest⟩ 3 (0, 0)) :: m) w -> SatW w0 D noJ ((b, dlO (l.filter fun x => !p x) ⟨[.slice (some ⟨b, 0, none⟩) l.length cap, .func (.func g) ⟨fs⟩ ⟨cs⟩]⟩ π) :: m) W' := by
 refine (delete_calls g fs cs p b cap l rest w hgr hl hb hp).mono ?_
 rintro e W' ⟨⟨r, hr⟩, rfl, hs⟩
 obtain ⟨g1, g2⟩ := growF hr (by decide)
 refine ⟨⟨0, r, [], []⟩, rfl, fun m hm => ?_⟩
 have h := satW_frame (pre := [(b, .cells ⟨flI l ++ rest⟩ 3 (0, 0))]) (post := [(b, .cells ⟨flI (l.filter fun x => !p x) ++ r⟩ 3 (0, 0))]) hm hs
 unfold dlO
 simp only
 rw [g2]
 exact h
/-- what is left where a block is written -/
theorem sat_but {w0 W W' : World} {D : Nat -> Prop} {p : Nat × Obj} {m : List (Nat × Obj)} (hW : SatW w0 D noJ (p :: m) W) (hS : Same (allBut W [p.1]) W W') : SatW w0 D noJ m W' :=
 satW_frame (pre := [p]) (post := []) hW ⟨hS, fun k h => h.1, by simp, fun q hq => (by cases hq), closed_noJ, trivial⟩
/-- of what is taken out of what may occur -/
def wtB (C : List Lk) (wt : List Int) (k : Int) (f : Nat -> Int) (x : Int) : Bool := decide (k + 1 - f (frO C x.toNat) ≠ wt.getD (ix C x.toNat) 0)
theorem wtB_occ {G : Gm} {wt : List Int} {k : Nat} {l : List Int} : (castL (may G k l)).filter (fun x => !wtB G.C wt k (kn l) x) = castL (occ G wt k l) := by
 unfold occ
 refine castL_filter fun q _ => ?_
 unfold wtB
 rw [Int.toNat_natCast]
 simp only [ne_eq, decide_not, Bool.not_not]
theorem wait31_any (b : GB) (a bG bP bU bW k : Nat) (l : List Int) (A : Option Addr) (cw : Nat) (wt : List Int) (hb : GOK b) (hk : k <= 1000) (hl : PosN b l) (hwl : wt.length = b.C.length) (w : World)
  (hg : GIn b a w) (cG : w.cell? ⟨bG, 0, none⟩ = some (.pointer (some ⟨a, 0, none⟩))) (cP : ∀ j u, (plC k (kn l))[j]? = some u -> w.cell? ⟨bP, j, none⟩ = some u) (cU : w.cell? ⟨bU, 2, none⟩ = some (.slice b.B b.C.length b.cb)) (cW : w.cell? ⟨bW, 0, none⟩ = some (.slice A wt.length cw)) (hA : At w A 1 (wt.map inE)) :
  ∀ x ∈ castL (may b.g k l), Calls Tryz.prog 42 ⟨[] ++ [.int .i64 x] ++ [.pointer (some ⟨bG, 0, none⟩), .pointer (some ⟨bP, 0, none⟩), .pointer (some ⟨bU, 0, none⟩), .pointer (some ⟨bW, 0, none⟩)]⟩ w fun e w' => e = .returned (.bool (wtB b.C wt k (kn l) x)) /\ Below w.heap.size w w' := fun x hx => by
 obtain ⟨q, hq, rfl⟩ := castL_mem hx
 obtain ⟨hqn, hm⟩ := may_mem.1 hq
 obtain ⟨y, hy, h0, hf, _⟩ := mayB_iff.1 hm
 obtain ⟨i, hi, hiy⟩ := lnk_some hy
 obtain ⟨e1, e2⟩ := ix_of hi hiy
 have hn := hb.n
 have hqn : q < b.n := hqn
 have hiy : b.C[i]? = some y := hiy
 have hcal := hb.r y (List.mem_of_getElem? hiy)
 obtain ⟨c1, c2, _⟩ := hcal
 have hil := (List.getElem?_eq_some_iff.1 hiy).1
 have hv : wt[i]? = some (wt.getD i 0) := by rw [List.getD_eq_getElem?_getD, List.getElem?_eq_getElem (by omega)]; rfl
 have hc := hb.c
 have := wait31_calls b a bG bP bU bW k (kn l) A cw wt q i y (wt.getD i 0) w (by omega) hk (fun q => by have := hl.kn q; omega) (iv_some hi) hiy ⟨c1, by omega⟩ (by omega) hv (by omega) hg cG cP cU cW hA
 unfold wtB
 rw [Int.toNat_natCast]
 show Calls _ _ _ _ fun e w' => e = .returned (.bool (decide ((k : Int) + 1 - kn l (frO b.g.C q) ≠ wt.getD (ix b.g.C q) 0))) /\ _
 rw [e1, e2]
 exact this
theorem own_cast {G : Gm} {t : Tab} {k : Nat} {l : List Int} : (castL (doD t k l)).filter (fun v => !!(castL (free G l)).contains v) = castL (own G t k l) := by
 unfold own
 refine castL_filter fun q _ => ?_
 rw [castL_contains, Bool.not_not]
/-! ## What Play answers -/
open Classical in
noncomputable def plc (n : Int) (L C : List Lk) (T : Int) (rows : List DW) (wt : List Int) : Int :=
 if rdC n L C T rows ≠ 0 then rdC n L C T rows else if wt.length = C.length /\ ∀ i x, C[i]? = some x -> x.lo <= wt.getD i 0 /\ wt.getD i 0 <= x.hi then 0 else 1
theorem plc_a {n T : Int} {L C : List Lk} {rows : List DW} {wt : List Int} (h : rdC n L C T rows ≠ 0) : plc n L C T rows wt = rdC n L C T rows := if_pos h
theorem plc_1 {n T : Int} {L C : List Lk} {rows : List DW} {wt : List Int} (h : rdC n L C T rows = 0) (h2 : ¬ (wt.length = C.length /\ ∀ i x, C[i]? = some x -> x.lo <= wt.getD i 0 /\ wt.getD i 0 <= x.hi)) : plc n L C T rows wt = 1 := by unfold plc; rw [if_neg (fun g => g h), if_neg h2]
theorem plc_0 {n T : Int} {L C : List Lk} {rows : List DW} {wt : List Int} (h : rdC n L C T rows = 0) (h2 : wt.length = C.length /\ ∀ i x, C[i]? = some x -> x.lo <= wt.getD i 0 /\ wt.getD i 0 <= x.hi) : plc n L C T rows wt = 0 := by unfold plc; rw [if_neg (fun g => g h), if_pos h2]
/-- what is handed back by Play -/
structure PlI where
 b : Nat
 c : Nat
 r : List Value
def PlQ (n : Int) (L C : List Lk) (T : Int) (rows : List DW) (wt : List Int) (w : World) (e : Ending) (w' : World) : Prop :=
 Below w.heap.size w w' /\ ((plc n L C T rows wt ≠ 0 /\ e = .returned (.tuple ⟨[.slice none 0 0, .int .i64 (plc n L C T rows wt)]⟩)) ∨
  (plc n L C T rows wt = 0 /\ ∃ i : PlI, e = .returned (.tuple ⟨[.slice (some ⟨i.b, 0, none⟩) (plA ⟨n.toNat, T.toNat, L, C⟩ wt (tabW rows)).length i.c, .int .i64 0]⟩) /\ w.heap.size <= i.b /\ w'.heap[i.b]? = some (.cells ⟨flI (plA ⟨n.toNat, T.toNat, L, C⟩ wt (tabW rows)) ++ i.r⟩ 3 (0, 0))))
end R24
end Go.Proofs

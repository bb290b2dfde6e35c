/- Games on networks: times that are fixed beforehand; networks without called points. Plain Lean. -/
import Derived.Test.YtcodoembnjemkaaSgPly
import Derived.Test.YtcodoembnjemkaaCtSol
import Derived.Test.YtcodoembnjemkaaCtIc
set_option linter.unusedSectionVars false
set_option linter.unusedVariables false
set_option linter.unusedSimpArgs false
namespace Go.Kin.Sg
open Go.Kin.St Go.Kin.Ct
/-- what a play has met, where the desk keeps to fixed times -/
structure Dk (G : Gm) (z : Nat -> Int) (k : Nat) (l : List Int) : Prop where
 len : l.length = G.n
 ex : ∀ q : Nat, q < G.n -> into G.C (q : Int) = none -> kn l q = if z q < k then z q + 1 else 0
 yes : ∀ (q i : Nat) x, q < G.n -> into G.C (q : Int) = some i -> G.C[i]? = some x -> kn l q ≠ 0 -> kn l x.fr.toNat ≠ 0 /\ x.lo <= kn l q - kn l x.fr.toNat /\ kn l q - kn l x.fr.toNat <= x.hi
 no : ∀ (q i : Nat) x, q < G.n -> into G.C (q : Int) = some i -> G.C[i]? = some x -> kn l q = 0 -> kn l x.fr.toNat ≠ 0 -> (k : Int) + 1 - kn l x.fr.toNat <= x.hi
/-- called links are right -/
def CalG (G : Gm) : Prop := ∀ (i : Nat) (x : Lk), G.C[i]? = some x -> 1 <= x.lo /\ x.lo <= x.hi /\ 0 <= x.fr /\ x.fr.toNat < G.n
/-- what is done at a tick -/
def fixD (G : Gm) (z : Nat -> Int) (k : Nat) (l : List Int) : List Nat := (free G l).filter fun q => decide (z q = k)
theorem dk_step {G : Gm} {z : Nat -> Int} {k : Nat} {l : List Int} {S : List Nat} (hC : CalG G) (hj : Dk G z k l) (hS : Ch G k l S) : Dk G z (k + 1) (put (put l S (k + 1)) (fixD G z k (put l S (k + 1))) (k + 1)) := by
 obtain ⟨l1, hl1⟩ : ∃ l1, put l S ((k : Int) + 1) = l1 := ⟨_, rfl⟩
 have hlen1 : l1.length = G.n := by rw [<- hl1, put_len, hj.len]
 have hk1 : ∀ q, q < G.n -> kn l1 q = if q ∈ S then (k : Int) + 1 else kn l q := fun q hq => by rw [<- hl1, put_kn (by rw [hj.len]; exact hq)]
 rw [hl1]
 obtain ⟨D, hD⟩ : ∃ D, fixD G z k l1 = D := ⟨_, rfl⟩
 have hDf : ∀ q ∈ D, q ∈ free G l1 /\ z q = k := fun q hq => by
  rw [<- hD] at hq
  unfold fixD at hq
  rw [List.mem_filter, decide_eq_true_eq] at hq
  exact hq
 have hDm : ∀ q, q ∈ free G l1 -> z q = k -> q ∈ D := fun q h1 h2 => by
  rw [<- hD]; unfold fixD
  rw [List.mem_filter, decide_eq_true_eq]
  exact ⟨h1, h2⟩
 rw [hD]
 have hk2 : ∀ q, q < G.n -> kn (put l1 D ((k : Int) + 1)) q = if q ∈ D then (k : Int) + 1 else kn l1 q := fun q hq => put_kn (by rw [hlen1]; exact hq)
 have hSm : ∀ q ∈ S, ∃ (i : Nat) (x : Lk), into G.C (q : Int) = some i /\ G.C[i]? = some x /\ kn l q = 0 /\ kn l x.fr.toNat ≠ 0 /\ x.lo <= k + 1 - kn l x.fr.toNat /\ (k : Int) + 1 - kn l x.fr.toNat <= x.hi := fun q hq => by
  obtain ⟨x, h1, h2⟩ := mayB_iff.1 (may_mem.1 (hS.1.subset hq)).2
  obtain ⟨i, h3, h4⟩ := lnk_some h1
  exact ⟨i, x, h3, h4, h2⟩
 have hDC : ∀ (q i : Nat), into G.C (q : Int) = some i -> q ∉ D := fun q i h hm => by
  have := (free_mem.1 (hDf q hm).1).2.1
  rw [h] at this; cases this
 have hSC : ∀ q : Nat, into G.C (q : Int) = none -> q ∉ S := fun q h hm => by
  obtain ⟨i, x, h1, _⟩ := hSm q hm
  rw [h] at h1; cases h1
 have hst1 : ∀ q, q < G.n -> kn l q ≠ 0 -> kn l1 q = kn l q := fun q hq h => by
  rw [hk1 q hq, if_neg]
  intro hm
  obtain ⟨i, x, _, _, h2, _⟩ := hSm q hm
  exact h h2
 have hst2 : ∀ q, q < G.n -> kn l1 q ≠ 0 -> kn (put l1 D ((k : Int) + 1)) q = kn l1 q := fun q hq h => by
  rw [hk2 q hq, if_neg]
  intro hm
  exact h (free_mem.1 (hDf q hm).1).2.2
 refine ⟨by rw [put_len, hlen1], fun q hq hi => ?_, fun q i x hq h1 h2 h0 => ?_, fun q i x hq h1 h2 h0 hf => ?_⟩
 ·have he := hj.ex q hq hi
  have e1 : kn l1 q = kn l q := by rw [hk1 q hq, if_neg (hSC q hi)]
  rw [hk2 q hq, e1]
  by_cases hz : z q = k
  ·rw [if_neg (by omega)] at he
   rw [if_pos (hDm q (free_mem.2 ⟨hq, hi, by rw [e1]; exact he⟩) hz), if_pos (by push_cast; omega)]
   omega
  ·rw [if_neg (fun hm => hz (hDf q hm).2), he]
   by_cases h2 : z q < k
   ·rw [if_pos h2, if_pos (by push_cast; omega)]
   ·rw [if_neg h2, if_neg (by push_cast; omega)]
 ·have hfn := (hC i x h2).2.2.2
  rw [hk2 q hq, if_neg (hDC q i h1)] at h0 ⊢
  have key : kn l1 x.fr.toNat ≠ 0 /\ x.lo <= kn l1 q - kn l1 x.fr.toNat /\ kn l1 q - kn l1 x.fr.toNat <= x.hi := by
   by_cases hql : kn l q = 0
   ·rw [hk1 q hq] at h0 ⊢
    have hm : q ∈ S := Classical.byContradiction fun h => by rw [if_neg h] at h0; exact h0 hql
    rw [if_pos hm]
    obtain ⟨i', x', g1, g2, _, g5, g6, g7⟩ := hSm q hm
    rw [h1] at g1; cases g1
    rw [h2] at g2; cases g2
    rw [hst1 _ hfn g5]
    exact ⟨g5, by omega, by omega⟩
   ·obtain ⟨g1, g2, g3⟩ := hj.yes q i x hq h1 h2 hql
    rw [hst1 q hq hql, hst1 _ hfn g1]
    exact ⟨g1, g2, g3⟩
  rw [hst2 _ hfn key.1]
  exact key
 ·obtain ⟨w1, w2, w3, hfn⟩ := hC i x h2
  rw [hk2 q hq, if_neg (hDC q i h1)] at h0
  have hqm : q ∉ S := fun hm => by rw [hk1 q hq, if_pos hm] at h0; omega
  have hql : kn l q = 0 := by rw [hk1 q hq, if_neg hqm] at h0; exact h0
  by_cases hfl : kn l x.fr.toNat = 0
  ·have : kn (put l1 D ((k : Int) + 1)) x.fr.toNat = (k : Int) + 1 := by
    rw [hk2 _ hfn] at hf ⊢
    by_cases hm : x.fr.toNat ∈ D
    ·rw [if_pos hm]
    ·rw [if_neg hm] at hf ⊢
     rw [hk1 _ hfn] at hf ⊢
     by_cases hm2 : x.fr.toNat ∈ S
     ·rw [if_pos hm2]
     ·rw [if_neg hm2] at hf; exact absurd hfl hf
   rw [this]; push_cast; omega
  ·have e1 := hst1 _ hfn hfl
   have e2 := hst2 _ hfn (by rw [e1]; exact hfl)
   rw [e2, e1]
   have h3 := hj.no q i x hq h1 h2 hql hfl
   have h4 : (k : Int) + 1 - kn l x.fr.toNat ≠ x.hi := fun e => hqm (hS.2 q (due_mem.2 ⟨hq, dueB_iff.2 ⟨x, lnk_of h1 h2, hql, hfl, by omega, e⟩⟩))
   push_cast; omega
theorem at_up {n : Nat} {C : List Lk} (h : Tree n C) {t d : Nat -> Int} {p : Nat} (hp : p < n) {i : Nat} (hi : into C (p : Int) = some i) : ∃ q : Nat, q < n /\ frm C i = q /\ at_ C n t d p = at_ C n t d q + d i /\ (chain C n p).length = (chain C n q).length + 1 := by
 obtain ⟨q, h1, h2, h3, h4⟩ := h.up hp hi
 refine ⟨q, h1, h2, ?_, by rw [h3]; rfl⟩
 unfold at_
 rw [h3, h4, lsum]
 omega
theorem at_top {n : Nat} {C : List Lk} {t d : Nat -> Int} {p : Nat} (hi : into C (p : Int) = none) : at_ C n t d p = t p := by
 unfold at_
 rw [(Tree.top hi).1, (Tree.top hi).2]
 simp [lsum]
/-- at the end all points have occurred, as with some durations -/
theorem dk_end {G : Gm} {z : Nat -> Int} {l : List Int} (hT : Tree G.n G.C) (hC : CalG G) (hj : Dk G z (G.T + 1) l) (hz : ∀ q : Nat, q < G.n -> 0 <= z q) (hin : ∀ q : Nat, q < G.n -> at_ G.C G.n z (hiOf G.C) q <= G.T) :
  ∀ (c : Nat) (q : Nat), q < G.n -> (chain G.C G.n q).length = c -> kn l q ≠ 0 /\ kn l q - 1 <= at_ G.C G.n z (hiOf G.C) q /\ kn l q - 1 = at_ G.C G.n z (fun i => match G.C[i]? with | some x => kn l x.to.toNat - kn l x.fr.toNat | none => 0) q := by
 intro c
 induction c with
 | zero =>
  intro q hq hc
  cases hi : into G.C (q : Int) with
  | some i =>
   obtain ⟨q', _, _, _, h4⟩ := at_up hT (t := z) (d := hiOf G.C) hq hi
   omega
  | none =>
   have he := hj.ex q hq hi
   have h1 := hin q hq
   rw [at_top hi] at h1 ⊢
   rw [at_top hi]
   have := hz q hq
   rw [if_pos (by push_cast; omega)] at he
   omega
 | succ c ih =>
  intro q hq hc
  cases hi : into G.C (q : Int) with
  | none => rw [(Tree.top hi).1] at hc; cases hc
  | some i =>
   obtain ⟨x, hx, hxq⟩ := into_some hi
   obtain ⟨w1, w2, w3, w4⟩ := hC i x hx
   obtain ⟨r, g1, g2, g3, g4⟩ := at_up hT (t := z) (d := hiOf G.C) hq hi
   obtain ⟨r', g1', g2', g3', _⟩ := at_up hT (t := z) (d := fun i => match G.C[i]? with | some x => kn l x.to.toNat - kn l x.fr.toNat | none => 0) hq hi
   have hfr : frm G.C i = x.fr := by unfold frm; rw [hx]
   have hr : r = x.fr.toNat := by omega
   have hr' : r' = r := by omega
   subst hr'
   have hhi : hiOf G.C i = x.hi := by unfold hiOf; rw [hx]
   obtain ⟨i1, i2, i3⟩ := ih r' g1 (by omega)
   rw [hhi] at g3
   simp only [hx] at g3'
   have hto : x.to.toNat = q := by omega
   rw [hto] at g3'
   have hb := hin q hq
   have hne : kn l q ≠ 0 := fun h0 => by
    have h5 := hj.no q i x hq hi hx h0 (by rw [<- hr]; exact i1)
    rw [<- hr] at h5
    push_cast at h5
    omega
   obtain ⟨j1, j2, j3⟩ := hj.yes q i x hq hi hx hne
   rw [<- hr] at j1 j2 j3 g3'
   refine ⟨hne, by omega, by omega⟩
/-- where times can be fixed beforehand, the desk can win -/
theorem strong_V {n T : Nat} {L C : List Lk} {z : Nat -> Int} (hT : Tree n C) (hC : CalG ⟨n, T, L, C⟩) (hLn : ∀ x ∈ L, 0 <= x.fr /\ x.fr < n /\ 0 <= x.to /\ x.to < n) (hz : ∀ q : Nat, q < n -> 0 <= z q) (hin : ∀ q : Nat, q < n -> at_ C n z (hiOf C) q <= T)
  (hk : ∀ d, Durs C d -> ∀ x ∈ L, x.lo <= at_ C n z d x.to - at_ C n z d x.fr /\ at_ C n z d x.to - at_ C n z d x.fr <= x.hi) :
  ∀ {f k : Nat} {l : List Int}, k + f = T + 1 -> Dk ⟨n, T, L, C⟩ z k l -> V ⟨n, T, L, C⟩ f k l
 | 0, k, l, hkf, hj => by
  have e : k = T + 1 := by omega
  subst e
  have hE := fun q hq => dk_end (G := ⟨n, T, L, C⟩) hT hC hj hz hin _ q hq rfl
  simp only at hE
  refine ⟨fun q hq => (hE q hq).1, fun x hx => ?_⟩
  obtain ⟨a1, a2, a3, a4⟩ := hLn x hx
  have hd : Durs C (fun i => match C[i]? with | some x => kn l x.to.toNat - kn l x.fr.toNat | none => 0) := fun i hi => by
   obtain ⟨y, hy⟩ : ∃ y, C[i]? = some y := ⟨_, List.getElem?_eq_getElem hi⟩
   have hcy := hT.cal y (List.mem_of_getElem? hy)
   obtain ⟨c1, c2, c3, c4, _⟩ := hcy
   have hone := hT.one i y hy
   have hto : ((y.to.toNat : Nat) : Int) = y.to := by omega
   have h1 := hE y.to.toNat (by omega)
   obtain ⟨j1, j2, j3⟩ := hj.yes y.to.toNat i y (by show y.to.toNat < n; omega) (by rw [hto]; exact hone) hy h1.1
   unfold loOf hiOf
   simp only [hy]
   exact ⟨j2, j3⟩
  have hkx := hk _ hd x hx
  have h1 := (hE x.to.toNat (by omega)).2.2
  have h2 := (hE x.fr.toNat (by omega)).2.2
  rw [show ((x.to.toNat : Nat) : Int) = x.to by omega] at h1
  rw [show ((x.fr.toNat : Nat) : Int) = x.fr by omega] at h2
  omega
 | f + 1, k, l, hkf, hj => fun S hS =>
  ⟨fixD ⟨n, T, L, C⟩ z k (put l S (k + 1)), List.filter_sublist, strong_V hT hC hLn hz hin hk (by omega) (dk_step hC hj hS)⟩
theorem dk_zero {G : Gm} {z : Nat -> Int} (hz : ∀ q : Nat, q < G.n -> 0 <= z q) : Dk G z 0 (List.replicate G.n 0) := ⟨List.length_replicate, fun q hq _ => by
 have := hz q hq
 rw [kn_zero, if_neg (by push_cast; omega)], fun q i x _ _ _ h => absurd kn_zero h, fun q i x _ _ _ _ h => absurd kn_zero h⟩
theorem strong_Vt {n T : Nat} {L C : List Lk} {z : Nat -> Int} (hT : Tree n C) (hC : CalG ⟨n, T, L, C⟩) (hLn : ∀ x ∈ L, 0 <= x.fr /\ x.fr < n /\ 0 <= x.to /\ x.to < n) (hz : ∀ q : Nat, q < n -> 0 <= z q) (hin : ∀ q : Nat, q < n -> at_ C n z (hiOf C) q <= T)
  (hk : ∀ d, Durs C d -> ∀ x ∈ L, x.lo <= at_ C n z d x.to - at_ C n z d x.fr /\ at_ C n z d x.to - at_ C n z d x.fr <= x.hi) : Vt ⟨n, T, L, C⟩ 0 (List.replicate n 0) := by
 unfold Vt
 exact strong_V hT hC hLn hz hin hk (by show 0 + (T + 1 - 0) = T + 1; omega) (dk_zero (G := ⟨n, T, L, C⟩) hz)
/-! ## No called points -/
/-- then a game that is won gives a schedule -/
theorem V_sched {n T : Nat} {L : List Lk} : ∀ {f k : Nat} {l : List Int}, V ⟨n, T, L, []⟩ f k l -> l.length = n -> (∀ q, kn l q <= k) -> (∀ q, 0 <= kn l q) -> ∃ r : List Int, keptP ⟨n, T, L, []⟩ r /\ (∀ q, kn r q <= (k + f : Nat)) /\ ∀ q, 0 <= kn r q
 | 0, k, l, h, hl, hb, h0 => ⟨l, h, hb, h0⟩
 | f + 1, k, l, h, hl, hb, h0 => by
  have hm : may ⟨n, T, L, []⟩ k l = [] := List.eq_nil_iff_forall_not_mem.2 fun q hq => by
   obtain ⟨x, h1, _⟩ := mayB_iff.1 (may_mem.1 hq).2
   cases h1
  have hd : due ⟨n, T, L, []⟩ k l = [] := List.eq_nil_iff_forall_not_mem.2 fun q hq => by
   have := due_may hq
   rw [hm] at this; cases this
  obtain ⟨D, h1, h2⟩ := h [] ⟨List.nil_sublist _, fun x hx => by rw [hd] at hx; cases hx⟩
  rw [put_nil] at h1 h2
  have hp : ∀ q, 0 <= kn (put l D (k + 1)) q /\ kn (put l D (k + 1)) q <= (k : Int) + 1 := kn_put_bd fun q => ⟨h0 q, hb q⟩
  obtain ⟨r, r1, r2, r3⟩ := V_sched h2 (by rw [put_len, hl]) (fun q => by have := hp q; push_cast; omega) (fun q => (hp q).1)
  exact ⟨r, r1, fun q => by have := r2 q; push_cast at this ⊢; omega, r3⟩
theorem Vt_sched {n T : Nat} {L : List Lk} (h : Vt ⟨n, T, L, []⟩ 0 (List.replicate n 0)) : ∃ z : Nat -> Int, (∀ q, q < n -> 0 <= z q /\ z q <= T) /\ ∀ x ∈ L, x.lo <= z x.to.toNat - z x.fr.toNat /\ z x.to.toNat - z x.fr.toNat <= x.hi := by
 obtain ⟨r, r1, r2, r3⟩ := V_sched (f := T + 1) h List.length_replicate (fun q => by rw [kn_zero]; exact Int.le_refl _) (fun q => by rw [kn_zero]; exact Int.le_refl _)
 refine ⟨fun q => kn r q - 1, fun q hq => ?_, fun x hx => ?_⟩
 ·have h1 := r1.1 q hq
  have h2 := r2 q
  have h3 := r3 q
  push_cast at h2
  show 0 <= kn r q - 1 /\ kn r q - 1 <= T
  constructor <;> omega
 ·have := r1.2 x hx
  simp only
  omega
end Go.Kin.Sg

namespace Go.Proofs
open Go.RowKit Go.Kin Go.Kin.St Go.Kin.Ct
open R22
namespace R23
/-- numbers of a list -/
def tf (l : List Int) (i : Nat) : Int := l.getD i 0
theorem tf_get {l : List Int} {i : Nat} {x : Int} (h : l[i]? = some x) : tf l i = x := by unfold tf; rw [List.getD_eq_getElem?_getD, h]; rfl
def Times (t : List Int) : Prop := ∀ x ∈ t, 0 <= x /\ x <= 1125899906842624
def Dur (C : List Lk) (d : List Int) : Prop := d.length = C.length /\ ∀ i, i < C.length -> loOf C i <= tf d i /\ tf d i <= hiOf C i
/-- what Play asks -/
def PlayOK (n : Int) (L C : List Lk) (t d : List Int) : Prop := chkU n L C = 0 /\ t.length = n /\ Times t /\ Dur C d
noncomputable def plE (n : Int) (L C : List Lk) (t d : List Int) : Int := @ite _ (PlayOK n L C t d) (Classical.propDecidable _) 0 (if chkU n L C = 0 then 1 else chkU n L C)
def plL (C : List Lk) (N : Nat) (t d : List Int) : List Int := (List.range N).map fun p : Nat => at_ C N (tf t) (tf d) p
noncomputable def plR (n : Int) (L C : List Lk) (t d : List Int) : List Int := @ite _ (PlayOK n L C t d) (Classical.propDecidable _) (plL C n.toNat t d) []
theorem plE_ok {n : Int} {L C : List Lk} {t d : List Int} (h : PlayOK n L C t d) : plE n L C t d = 0 /\ plR n L C t d = plL C n.toNat t d := ⟨if_pos h, if_pos h⟩
theorem plE_chk {n : Int} {L C : List Lk} {t d : List Int} (h : chkU n L C ≠ 0) : plE n L C t d = chkU n L C /\ plR n L C t d = [] := ⟨by unfold plE; rw [if_neg (fun g => h g.1), if_neg h], if_neg (fun g => h g.1)⟩
theorem plE_arg {n : Int} {L C : List Lk} {t d : List Int} (h0 : chkU n L C = 0) (h : ¬ (t.length = n /\ Times t /\ Dur C d)) : plE n L C t d = 1 /\ plR n L C t d = [] := ⟨by unfold plE; rw [if_neg (fun g => h g.2), if_pos h0], if_neg (fun g => h g.2)⟩
/-- what Play answers -/
def PlayQ (n : Int) (L C : List Lk) (t d : List Int) (w : World) (e : Ending) (w' : World) : Prop := ∃ v, e = .returned (.tuple ⟨[v, .int .i64 (plE n L C t d)]⟩) /\ RowQ (plR n L C t d) w v w' /\ Below w.heap.size w w'
theorem RowQ.nil {w w' : World} : RowQ [] w (.slice none 0 0) w' := .inl ⟨rfl, rfl⟩
theorem plL_len {C : List Lk} {N : Nat} {t d : List Int} : (plL C N t d).length = N := by unfold plL; simp
theorem plL_take {C : List Lk} {N k : Nat} {t d : List Int} (h : k < N) : (plL C N t d).take (k + 1) = (plL C N t d).take k ++ [at_ C N (tf t) (tf d) k] := by
 rw [List.take_add_one, show (plL C N t d)[k]? = some (at_ C N (tf t) (tf d) k) by unfold plL; rw [List.getElem?_map, List.getElem?_range h]; rfl]; rfl
/-! ## Times that are none -/
theorem badN_calls (x : Int) (w : World) :
  Calls Try.prog 57 ⟨[.int .i64 x]⟩ w fun e w' => e = .returned (.bool (decide (¬ (0 <= x /\ x <= 1125899906842624)))) /\ Below w.heap.size w w' := by
 refine fEn Try.func57 rfl Try.ntmps57 rfl rfl (sWn w) ?_
 by_cases h1 : x < 0
 ·rw [decide_eq_true (by omega)]
  repeat (first|refine lVa rfl rfl (by first|exact pEv rfl|fail) ?_|refine lNi ?_|refine cRg ?_|refine cSq ?_|refine xTh ?_|refine l_skip rfl rfl ?_|refine c_ret ?_|refine l_dec_t rfl rfl rfl rfl rfl (by first|omega|fail) ?_|fail)
  exact x_ret rfl rfl (by repeat constructor) rfl (fun W hW => ⟨rfl, hW.below⟩)
 ·by_cases h2 : 1125899906842624 < x
  ·rw [decide_eq_true (by omega)]
   repeat (first|refine lVa rfl rfl (by first|exact pEv rfl|fail) ?_|refine lNi ?_|refine cRg ?_|refine cSq ?_|refine xTh ?_|refine c_ret ?_|refine l_dec_f rfl rfl rfl rfl rfl (by first|omega|fail) ?_|fail)
   exact x_ret rfl rfl (by repeat constructor) rfl (fun W hW => ⟨by rw [decide_eq_true h2], hW.below⟩)
  ·rw [decide_eq_false (by omega)]
   repeat (first|refine lVa rfl rfl (by first|exact pEv rfl|fail) ?_|refine lNi ?_|refine cRg ?_|refine cSq ?_|refine xTh ?_|refine c_ret ?_|refine l_dec_f rfl rfl rfl rfl rfl (by first|omega|fail) ?_|fail)
   exact x_ret rfl rfl (by repeat constructor) rfl (fun W hW => ⟨by rw [decide_eq_false h2], hW.below⟩)
theorem indexN_calls (T : Option Addr) (cap : Nat) (t : List Int) (w : World) (hT : Kin.At w T 1 (t.map inE)) (hl : t.length <= 9223372036854775807) :
  Calls Try.prog 60 ⟨[.slice T t.length cap, .func (.func 57) ⟨[]⟩ ⟨[]⟩]⟩ w fun e w' => ∃ r : {r : Int // 0 <= r ↔ ¬ Times t}, e = .returned (.int .i64 r.1) /\ Below w.heap.size w w' := by
 refine fEn Try.func60 rfl Try.ntmps60 rfl rfl (sWn w) ?_
 repeat (first|refine lVa rfl rfl (by first|exact pEv rfl|fail) ?_|refine lNi ?_|refine cRg ?_|refine cSq ?_|refine xTh ?_|refine cBl ?_|fail)
 refine c_loop (ι := Nat) (fun k => k <= t.length /\ Times (t.take k)) (fun k => [(0, .slice T t.length cap), (1, .func (.func 57) ⟨[]⟩ ⟨[]⟩), (7, .int .i64 t.length), (8, .int .i64 k)]) (fun _ => []) (fun k => t.length - k) 0 ⟨Nat.zero_le _, fun u hu => by simp at hu⟩ (by repeat (first|exact .nil|refine .cons rfl (by first|rfl|(congr 1; done)|exact congrArg _ (by omega)|(simp; done)) ?_)) (by repeat (first|exact .nil|refine .keep (by first|rfl|assumption) ?_|refine .drop ?_|exact MSub.refl _)) ?_
 rintro k ⟨hk, hF⟩
 by_cases hlt : k < t.length
 ·obtain ⟨y, hy⟩ : ∃ y, t[k]? = some y := ⟨_, List.getElem?_eq_getElem hlt⟩
  obtain ⟨b', o, rfl, hc⟩ := hT k (inE y) (by simp [hy])
  have he := ext_of hc
  rw [Nat.mul_one] at he
  repeat (first|refine lVa rfl rfl (by first|exact pEv rfl|exact vL0 rfl (by assumption) rfl (by rfl)|exact v_index rfl rfl rfl rfl (by omega) (by omega) (by with_reducible first|exact idx2 _ _|fail)|fail) ?_|refine lNi ?_|refine cRg ?_|refine cSq ?_|refine xTh ?_|refine c_dec_t rfl (by first|omega|fail) ?_|refine cBl ?_|refine cSk ?_|fail)
  refine r_callv rfl rfl rfl rfl rfl (fun W hW => badN_calls y W) ?_
  by_cases hg : 0 <= y /\ y <= 1125899906842624
  ·rw [decide_eq_false (fun h => h hg)]
   repeat (first|refine lVa rfl rfl (by first|exact v_add rfl rfl (by omega) (by omega)|exact pEv rfl|fail) ?_|refine lNi ?_|refine cRg ?_|refine xTh ?_|refine c_false rfl ?_|refine cSk ?_|refine x_block ?_|fail)
   refine x_back (k + 1) ⟨hlt, fun z hz => ?_⟩ (by omega) (by repeat (first|exact .nil|refine .cons rfl (by first|rfl|(congr 1; done)|exact congrArg _ (by omega)|(simp; done)) ?_)) (by repeat (first|exact .nil|refine .keep (by first|rfl|assumption) ?_|refine .drop ?_|exact MSub.refl _))
   rw [List.take_add_one, hy] at hz
   rcases List.mem_append.1 hz with h | h
   ·exact hF z h
   ·simp only [Option.toList_some, List.mem_singleton] at h
    rw [h]; exact hg
  ·rw [decide_eq_true hg]
   have hno : ¬ Times t := fun h => hg (h y (List.mem_of_getElem? hy))
   repeat (first|refine lVa rfl rfl (by first|exact pEv rfl|fail) ?_|refine lNi ?_|refine cRg ?_|refine cSq ?_|refine xTh ?_|refine c_true rfl ?_|refine c_ret ?_|refine xTr ?_|refine xBr ?_|fail)
   exact x_ret rfl rfl (by repeat constructor) rfl (fun W hW => ⟨⟨(k : Int), ⟨fun _ => hno, fun _ => by omega⟩⟩, rfl, hW.below⟩)
 ·have hkl : k = t.length := by omega
  subst hkl
  rw [List.take_length] at hF
  repeat (first|refine lVa rfl rfl (by first|exact pEv rfl|fail) ?_|refine lNi ?_|refine cRg ?_|refine cSq ?_|refine xTh ?_|refine c_dec_f rfl (by first|omega|fail) ?_|refine c_ret ?_|refine c_exit ?_|refine xTe ?_|refine xBs ?_|fail)
  exact x_ret rfl rfl (by repeat constructor) rfl (fun W hW => ⟨⟨-1, ⟨fun h => by omega, fun h => absurd hF h⟩⟩, rfl, hW.below⟩)
theorem containsN_calls (T : Option Addr) (cap : Nat) (t : List Int) (w : World) (hT : Kin.At w T 1 (t.map inE)) (hl : t.length <= 9223372036854775807) :
  Calls Try.prog 56 ⟨[.slice T t.length cap, .func (.func 57) ⟨[]⟩ ⟨[]⟩]⟩ w fun e w' => e = .returned (.bool (@decide (¬ Times t) (Classical.propDecidable _))) /\ Below w.heap.size w w' := by
 refine fEn Try.func56 rfl Try.ntmps56 rfl rfl (sWn w) ?_
 repeat (first|refine lVa rfl rfl (by first|exact pEv rfl|fail) ?_|refine lNi ?_|refine cRg ?_|refine cSq ?_|refine xTh ?_|fail)
 refine r_callI rfl rfl rfl (fun W hW => indexN_calls T cap t W (hT.sat hW) hl) ?_
 rintro ⟨r, hr⟩
 simp only
 by_cases h : Times t
 ·have : ¬ 0 <= r := fun h2 => hr.1 h2 h
  repeat (first|refine lVa rfl rfl (by first|exact pEv rfl|fail) ?_|refine lNi ?_|refine xTh ?_|refine c_ret ?_|fail)
  refine x_ret rfl rfl (by repeat constructor) rfl (fun W hW => ⟨?_, hW.below⟩)
  rw [decide_eq_false this, @decide_eq_false _ (Classical.propDecidable _) (fun h2 : ¬ Times t => h2 h)]
 ·have : 0 <= r := hr.2 h
  repeat (first|refine lVa rfl rfl (by first|exact pEv rfl|fail) ?_|refine lNi ?_|refine xTh ?_|refine c_ret ?_|fail)
  refine x_ret rfl rfl (by repeat constructor) rfl (fun W hW => ⟨?_, hW.below⟩)
  rw [decide_eq_true this, @decide_eq_true _ (Classical.propDecidable _) h]
theorem tf_bd {C : List Lk} {d : List Int} {N : Nat} (hT : Tree N C) (hd : Dur C d) {i : Nat} (hi : i < C.length) : 0 <= tf d i /\ tf d i <= 1099511627776 := by
 have h1 := hd.2 i hi
 have h2 := cal_of hT hi
 omega
theorem lsumD {C : List Lk} {d : List Int} {N j : Nat} {p : Int} (hT : Tree N C) (hd : Dur C d) : -(1099511627776 * (((climb C j p).1.length : Nat) : Int)) <= lsum (tf d) (climb C j p).1 /\ lsum (tf d) (climb C j p).1 <= 1099511627776 * (((climb C j p).1.length : Nat) : Int) := by
 have key : ∀ l : List Nat, (∀ i ∈ l, i < C.length) -> -(1099511627776 * (l.length : Int)) <= lsum (tf d) l /\ lsum (tf d) l <= 1099511627776 * (l.length : Int) := by
  intro l
  induction l with
  | nil => intro _; simp [lsum]
  | cons i l ih =>
   intro h
   have h1 := ih fun j hj => h j (List.mem_cons_of_mem _ hj)
   have h2 := tf_bd hT hd (h i List.mem_cons_self)
   simp only [lsum, List.length_cons]
   omega
 exact key _ (climb_mem j p)
end R23
end Go.Proofs

/- Games on networks: how many decisions there are at most. Plain Lean. -/
import Derived.Test.YtcodoembnjemkaaGreatSgCnt
import Derived.Test.YtcodoembnjemkaaGreatSgSq
import Derived.Test.YtcodoembnjemkaaGreatSgPd
import Derived.Test.YtcodoembnjemkaaGreatSgChk
import Derived.Test.YtcodoembnjemkaaGreatSgTab
import Derived.Test.YtcodoembnjemkaaGreatSgInto
set_option linter.unusedSectionVars false
set_option linter.unusedVariables false
set_option linter.unusedSimpArgs false
namespace Go.Proofs
open Go.RowKit Go.Kin Go.Kin.St Go.Kin.Ct Go.Kin.Sg
namespace R24
theorem cnt_le {rows : List DR} {cs : List Nat} {n T : Nat} (hs : rows.Pairwise (fun x y => cmpK x.k x.l y.k y.l < 0)) (hr : ∀ r ∈ rows, r.k <= T /\ r.l.length = n /\ ∀ x ∈ r.l, 0 <= x /\ x <= T + 1) (hc : ∀ q ∈ cs, q < n)
  (hi : ∀ r ∈ rows, ∀ r' ∈ rows, r.k = r'.k -> (∀ q ∈ cs, kn r.l q = kn r'.l q) -> r.l = r'.l) : rows.length <= (T + 1) * (T + 2) ^ cs.length := by
 have h := pos_le (n := cs.length) (T := T) (l := rows.map fun r => (r.k, cs.map (kn r.l))) (by
  unfold List.Nodup
  rw [List.pairwise_map]
  refine hs.imp_of_mem fun {a b} ha hb hab e => ?_
  have e1 : a.k = b.k := congrArg Prod.fst e
  have e2 : cs.map (kn a.l) = cs.map (kn b.l) := congrArg Prod.snd e
  have e3 := hi a ha b hb e1 fun q hq => List.map_inj_left.1 e2 q hq
  rw [e1, e3] at hab
  exact cmpK_irrefl hab) (fun p hp => by
  obtain ⟨r, hrm, rfl⟩ := List.mem_map.1 hp
  obtain ⟨h1, h2, h3⟩ := hr r hrm
  refine ⟨h1, List.length_map _, fun x hx => ?_⟩
  obtain ⟨q, hq, rfl⟩ := List.mem_map.1 hx
  exact h3 _ (List.mem_of_getElem? (kn_at (by rw [h2]; exact hc q hq))))
 rwa [List.length_map] at h
theorem filt_lt {n : Nat} {p : Nat -> Bool} (h : ∃ q, q < n /\ p q = false) : ((List.range n).filter p).length + 1 <= n := by
 obtain ⟨q, hq, hp⟩ := h
 have h1 := List.length_filter_lt_length_iff_exists (l := List.range n) (p := p) |>.2 ⟨q, List.mem_range.2 hq, by rw [hp]; simp⟩
 rw [List.length_range] at h1
 exact h1
theorem pow_cnt {T c n : Nat} (h : c + 1 <= n) (hf : (T + 2) ^ n <= 3000) : (T + 1) * (T + 2) ^ c <= 3000 := by
 have h1 : (T + 1) * (T + 2) ^ c <= (T + 2) * (T + 2) ^ c := Nat.mul_le_mul_right _ (by omega)
 have h2 : (T + 2) * (T + 2) ^ c = (T + 2) ^ (c + 1) := by rw [Nat.pow_succ, Nat.mul_comm]
 have h3 : (T + 2) ^ (c + 1) <= (T + 2) ^ n := Nat.pow_le_pow_right (by omega) h
 omega
theorem dec_le {n T : Nat} {d : DR} (h : okX n T d.dec) : d.k <= T /\ d.l.length = n /\ ∀ x ∈ d.l, 0 <= x /\ x <= T + 1 := by
 have h1 : ((d.k : Nat) : Int) <= T := h.kT
 exact ⟨by omega, h.l, fun x hx => by have := h.e x hx; have h2 : x <= ((d.k : Nat) : Int) + 1 := this.2; exact ⟨this.1, by omega⟩⟩
theorem count_D {b : GB} (hb : GOK b) (hv : Vt b.g 0 (List.replicate b.n 0)) (hroot : ∃ q, q < b.n /\ into b.C (q : Nat) = none) (hf : (b.T + 2) ^ b.n <= 3000) {i : SolI} (h : i.OK b.g (adD b.g) (nxD b.g)) : i.rows.length <= 4096 := by
 have hx : ∀ r ∈ i.rows, okX b.n b.T r.dec := fun r hr => by
  obtain ⟨p, h1, h2, h3⟩ := (h.d r.dec).1 (List.mem_map.2 ⟨r, hr, rfl⟩)
  exact okX_D hb hv h1 h2 h3
 have hc := cnt_le (cs := (List.range b.n).filter fun q => (into b.C (q : Nat)).isSome) (n := b.n) (T := b.T) h.s (fun r hr => dec_le (hx r hr)) (fun q hq => List.mem_range.1 (List.mem_filter.1 hq).1) (fun r hr r' hr' hk hq => by
  obtain ⟨p, h1, h2, h3⟩ := (h.d r.dec).1 (List.mem_map.2 ⟨r, hr, rfl⟩)
  obtain ⟨p', h1', h2', h3'⟩ := (h.d r'.dec).1 (List.mem_map.2 ⟨r', hr', rfl⟩)
  unfold adD at h3 h3'
  obtain ⟨S, hS, h3⟩ := List.mem_flatMap.1 h3
  obtain ⟨S', hS', h3'⟩ := List.mem_flatMap.1 h3'
  obtain ⟨_, e⟩ := dec1_mem h3
  obtain ⟨_, e'⟩ := dec1_mem h3'
  have ek : ((r.k : Nat) : Int) = p.1 := congrArg Dec.k e
  have ek' : ((r'.k : Nat) : Int) = p'.1 := congrArg Dec.k e'
  have el : r.l = put p.2 S (p.1 + 1) := congrArg Dec.l e
  have el' : r'.l = put p'.2 S' (p'.1 + 1) := congrArg Dec.l e'
  obtain ⟨k, m⟩ := p
  obtain ⟨k', m'⟩ := p'
  simp only at ek ek' el el' h1 h1' hS hS'
  have e1 : k = k' := by omega
  subst e1
  have hlen := lenD (G := b.g) h1
  have hlen' := lenD (G := b.g) h1'
  have hsc : ∀ {m : List Int} {S : List Nat}, S ∈ allCh (may b.g k m) (Sg.due b.g k m) -> ∀ q ∈ S, q < b.g.n /\ into b.g.C q ≠ none /\ kn m q = 0 := fun hS q hqs => by
   have hm := (mem_allCh.1 hS).1.subset hqs
   exact ⟨may_lt hm, (may_called hm).2, (may_called hm).1⟩
  obtain ⟨g1, g2⟩ := step_same (c := fun q => into b.g.C (q : Nat) ≠ none) hlen hlen' (leD (G := b.g) h1) (leD (G := b.g) h1') (hsc hS) (hsc hS') fun q hqn hcq => by
   rw [<- el, <- el']
   exact hq q (List.mem_filter.2 ⟨List.mem_range.2 hqn, Option.isSome_iff_ne_none.2 hcq⟩)
  have em := uniD k (G := b.g) h1 h1' g2
  subst em
  rw [el, el', put_congr g1])
 have hl := filt_lt (n := b.n) (p := fun q => (into b.C (q : Nat)).isSome) (by
  obtain ⟨q, h1, h2⟩ := hroot
  exact ⟨q, h1, by rw [h2]; rfl⟩)
 have := pow_cnt hl hf
 omega
theorem count_O {b : GB} (hb : GOK b) (hv : ¬ Vt b.g 0 (List.replicate b.n 0)) (hf : (b.T + 2) ^ b.n <= 3000) {i : SolI} (h : i.OK b.g (adO b.g) (nxO b.g)) : i.rows.length <= 4096 := by
 by_cases hne : i.rows = []
 ·rw [hne]; simp
 have hx : ∀ r ∈ i.rows, okX b.n b.T r.dec := fun r hr => by
  obtain ⟨p, h1, h2, h3⟩ := (h.d r.dec).1 (List.mem_map.2 ⟨r, hr, rfl⟩)
  exact okX_O hb hv h1 h2 h3
 have hc := cnt_le (cs := (List.range b.n).filter fun q => (into b.C (q : Nat)).isNone) (n := b.n) (T := b.T) h.s (fun r hr => dec_le (hx r hr)) (fun q hq => List.mem_range.1 (List.mem_filter.1 hq).1) (fun r hr r' hr' hk hq => by
  obtain ⟨p, h1, h2, h3⟩ := (h.d r.dec).1 (List.mem_map.2 ⟨r, hr, rfl⟩)
  obtain ⟨p', h1', h2', h3'⟩ := (h.d r'.dec).1 (List.mem_map.2 ⟨r', hr', rfl⟩)
  unfold adO at h3 h3'
  obtain ⟨_, e⟩ := dec1_mem h3
  obtain ⟨_, e'⟩ := dec1_mem h3'
  have ek : ((r.k : Nat) : Int) = p.1 := congrArg Dec.k e
  have ek' : ((r'.k : Nat) : Int) = p'.1 := congrArg Dec.k e'
  have el : r.l = p.2 := congrArg Dec.l e
  have el' : r'.l = p'.2 := congrArg Dec.l e'
  obtain ⟨k, m⟩ := p
  obtain ⟨k', m'⟩ := p'
  simp only at ek ek' el el' h1 h1'
  have e1 : k = k' := by omega
  subst e1
  rw [el, el']
  refine uniO k (G := b.g) h1 h1' fun q hqn hcq => ?_
  rw [<- el, <- el']
  exact hq q (List.mem_filter.2 ⟨List.mem_range.2 hqn, Option.isNone_iff_eq_none.2 hcq⟩))
 have hl := filt_lt (n := b.n) (p := fun q => (into b.C (q : Nat)).isNone) (by
  obtain ⟨r, hr⟩ := List.exists_mem_of_ne_nil _ hne
  obtain ⟨p, h1, h2, h3⟩ := (h.d r.dec).1 (List.mem_map.2 ⟨r, hr, rfl⟩)
  unfold adO at h3
  obtain ⟨g, _⟩ := dec1_mem h3
  obtain ⟨q, hq⟩ := List.exists_mem_of_ne_nil _ g
  have hm := gO_may q hq
  refine ⟨q, may_lt hm, ?_⟩
  cases hi : into b.C (q : Nat) with
  | none => exact absurd hi (may_called hm).2
  | some j => rfl)
 have := pow_cnt hl hf
 omega
end R24
end Go.Proofs

namespace Go.Proofs
open Go.RowKit Go.Kin Go.Kin.St Go.Kin.Ct Go.Kin.Sg
namespace R24
theorem tree_root {n T : Nat} {L C : List Lk} (h : chkS n L C T = 0) : ∃ q, q < n /\ into C (q : Nat) = none := by
 obtain ⟨h0, h1, h2, h3, h4, h5⟩ := chkS_ok h
 obtain ⟨c1, c2, c3, c4, c5, c6⟩ := R23.chkU_ok h0
 rw [Int.toNat_natCast] at c6
 have hn : 0 < n := by omega
 have he := c6.ends 0 hn
 have hin := climb_in (n := (n : Int)) c6.cal n ((0 : Nat) : Int) (by omega) (by omega)
 refine ⟨(climb C n ((0 : Nat) : Int)).2.toNat, by omega, ?_⟩
 rw [show (((climb C n ((0 : Nat) : Int)).2.toNat : Nat) : Int) = (climb C n ((0 : Nat) : Int)).2 by omega]
 exact he
theorem sol_read {n T : Nat} {L C : List Lk} {i : SolI} (h0 : chkS n L C T = 0) (hf : (T + 2) ^ n <= 3000) (hv : Vt ⟨n, T, L, C⟩ 0 (List.replicate n 0)) (hi : i.OK ⟨n, T, L, C⟩ (adD ⟨n, T, L, C⟩) (nxD ⟨n, T, L, C⟩)) :
  rdC n L C T (i.rows.map drW) = 0 /\ wnG ⟨n, T, L, C⟩ (i.rows.map drW) = true := by
 have hb := (tree_gok (A := none) (B := none) (ca := 0) (cb := 0) (m := 0) h0).1
 have hok : okS n T (i.rows.map drW) := okS_of hi fun d hd => by
  obtain ⟨p, h1, h2, h3⟩ := (hi.d d).1 hd
  exact okX_D hb hv h1 h2 h3
 have hc := count_D hb hv (tree_root h0) hf hi
 refine ⟨rdC_0 h0 (by rw [List.length_map]; omega) (by rw [Int.toNat_natCast, Int.toNat_natCast]; exact hok), ?_⟩
 unfold wnG
 exact @decide_eq_true _ (Classical.propDecidable _) (Wn_sol (G := ⟨n, T, L, C⟩) (holds_of hi) hv)
theorem spo_read {n T : Nat} {L C : List Lk} {i : SolI} (h0 : chkS n L C T = 0) (hf : (T + 2) ^ n <= 3000) (hv : ¬ Vt ⟨n, T, L, C⟩ 0 (List.replicate n 0)) (hi : i.OK ⟨n, T, L, C⟩ (adO ⟨n, T, L, C⟩) (nxO ⟨n, T, L, C⟩)) :
  rdC n L C T (i.rows.map drW) = 0 /\ spG ⟨n, T, L, C⟩ (i.rows.map drW) = true := by
 have hb := (tree_gok (A := none) (B := none) (ca := 0) (cb := 0) (m := 0) h0).1
 have hok : okS n T (i.rows.map drW) := okS_of hi fun d hd => by
  obtain ⟨p, h1, h2, h3⟩ := (hi.d d).1 hd
  exact okX_O hb hv h1 h2 h3
 have hc := count_O hb hv hf hi
 refine ⟨rdC_0 h0 (by rw [List.length_map]; omega) (by rw [Int.toNat_natCast, Int.toNat_natCast]; exact hok), ?_⟩
 unfold spG
 exact @decide_eq_true _ (Classical.propDecidable _) (Sp_sol (G := ⟨n, T, L, C⟩) (holds_of hi) hv)
/-- a strategy of one's own lies in the world -/
theorem strIn_own {i : SolI} {w : World} {G : Gm} {ad : Pos -> List Dec} {nx : Pos -> List Pos} (hi : i.OK G ad nx) (hm : ∀ p ∈ i.m, w.heap[p.1]? = some p.2) : ∃ A c, i.v = .slice A (i.rows.map drW).length c /\ StrIn w A (i.rows.map drW) := by
 have hkn : ∀ r ∈ i.rows, r.knM ++ r.doM ⊆ i.m := fun r hr x hx => by
  unfold SolI.m rowsM
  exact List.mem_append_right _ (List.mem_flatMap.2 ⟨r, hr, hx⟩)
 have hcell : ∀ {b : Nat} {cs : List Value} {T : TypeId}, (b, Obj.cells ⟨cs⟩ T (0, 0)) ∈ i.m -> ∀ k v, cs[k]? = some v -> w.cell? ⟨b, k, none⟩ = some v := fun {b cs T} hb k v hv => by
  unfold World.cell?
  simp only
  rw [hm _ hb]
  show (⟨cs⟩ : Array Value)[k]? = some v
  simpa using hv
 have hK : ∀ r ∈ i.rows.map drW, At w r.K 1 (r.l.map inE) := fun r hr => by
  obtain ⟨x, hx, rfl⟩ := List.mem_map.1 hr
  refine fun k cs hk => ⟨x.bk, 0, rfl, fun j v hj => ?_⟩
  rw [List.getElem?_map] at hk
  obtain ⟨y, hy, rfl⟩ := Option.map_eq_some_iff.1 hk
  cases j with
  | succ j => cases hj
  | zero =>
   cases hj
   rw [show 0 + k * 1 + 0 = k by omega]
   exact hcell (hkn x hx (List.mem_append_left _ List.mem_cons_self)) k _ (flI_get hy _)
 have hD : ∀ r ∈ i.rows.map drW, At w r.D 1 (r.d.map inE) := fun r hr => by
  obtain ⟨x, hx, rfl⟩ := List.mem_map.1 hr
  refine fun k cs hk => ⟨x.bd, 0, rfl, fun j v hj => ?_⟩
  rw [List.getElem?_map] at hk
  obtain ⟨y, hy, rfl⟩ := Option.map_eq_some_iff.1 hk
  cases j with
  | succ j => cases hj
  | zero =>
   cases hj
   rw [show 0 + k * 1 + 0 = k by omega]
   refine hcell (hkn x hx (List.mem_append_right _ List.mem_cons_self)) k _ ?_
   have h1 : (x.d.map nE).flatten = flI (x.d.map fun x : Nat => (x : Int)) := by unfold flI; rw [List.map_map]; rfl
   rw [h1]
   exact flI_get hy _
 cases hr : i.rows with
 | nil =>
  refine ⟨none, 0, by unfold SolI.v; rw [hr]; rfl, ?_⟩
  rw [<- hr]
  exact ⟨fun k cs hk => by rw [hr] at hk; simp at hk, hK, hD⟩
 | cons r0 rs =>
  refine ⟨some ⟨i.b, 0, none⟩, i.c, by unfold SolI.v; rw [hr, List.length_map]; rfl, ?_⟩
  rw [<- hr]
  refine ⟨fun k cs hk => ⟨i.b, 0, rfl, fun j v hj => ?_⟩, hK, hD⟩
  rw [List.map_map, List.getElem?_map] at hk
  obtain ⟨x, hx, rfl⟩ := Option.map_eq_some_iff.1 hk
  have hj : (drE x)[j]? = some v := by rw [<- drW_E]; exact hj
  have hat := dr_at (rest := i.r) hx
  have hb : (i.b, Obj.cells ⟨(i.rows.map drE).flatten ++ i.r⟩ 39 (0, 0)) ∈ i.m := by
   unfold SolI.m
   refine List.mem_append_left _ ?_
   rw [hr]; exact List.mem_cons_self
  refine hcell hb _ v ?_
  have h2 : ((((i.rows.map drE).flatten ++ i.r).drop (k * 3)).take (drE x).length)[j]? = (drE x)[j]? := congrArg (fun l : List Value => l[j]?) hat.eq
  have hj3 : j < (drE x).length := (List.getElem?_eq_some_iff.1 hj).1
  rw [List.getElem?_take_of_lt hj3, List.getElem?_drop, hj] at h2
  rw [Nat.zero_add]; exact h2
end R24
end Go.Proofs

namespace Go.Kin.Sg
def WnB (G : Gm) (t : Tab) : Nat -> Nat -> List Int -> Bool
 | 0, _, l => kB G l
 | f + 1, k, l => (allCh (may G k l) (due G k l)).all fun S => ((doD t k (put l S (k + 1))).all fun x => decide (x ∈ free G (put l S (k + 1)))) && WnB G t f (k + 1) (put (put l S (k + 1)) (doD t k (put l S (k + 1))) (k + 1))
theorem WnB_iff {G : Gm} {t : Tab} : ∀ {f k : Nat} {l : List Int}, WnB G t f k l = true ↔ Wn G t f k l
 | 0, _, _ => kB_iff
 | f + 1, k, l => by
  unfold WnB Wn
  rw [List.all_eq_true]
  constructor
  ·intro h S hS
   have h1 := h S (ch_mem.1 hS)
   rw [Bool.and_eq_true, List.all_eq_true] at h1
   exact ⟨fun x hx => of_decide_eq_true (h1.1 x hx), WnB_iff.1 h1.2⟩
  ·intro h S hS
   obtain ⟨h1, h2⟩ := h S (ch_mem.2 hS)
   rw [Bool.and_eq_true, List.all_eq_true]
   exact ⟨fun x hx => decide_eq_true (h1 x hx), WnB_iff.2 h2⟩
end Go.Kin.Sg
namespace Go.Proofs
open Go.RowKit Go.Kin Go.Kin.St Go.Kin.Ct Go.Kin.Sg
namespace R24
def foN (lo : Int) : List Lk := [foL lo lo]
theorem ends_1 {n : Int} {x : Lk} (h : Cal n x) (h2 : into [x] x.to = some 0) : R23.Ends n [x] := fun i y hy => by
 cases i with
 | zero => cases hy; exact ⟨h, h2⟩
 | succ i => simp at hy
theorem ends_0 {n : Int} : R23.Ends n [] := fun i y hy => by simp at hy
theorem okT_of {N : Nat} {C : List Lk} (h : ((List.range N).all fun p : Nat => (into C (climb C N p).2).isNone) = true) : R23.okT N C := fun p hp => by
 have := List.all_eq_true.1 h p (List.mem_range.2 hp)
 exact Option.isNone_iff_eq_none.1 this
theorem chkU_f1 : R23.chkU 3 (foN 1) [foC] = 0 := R23.chkU_0 (by decide) (by decide) ⟨ends_1 (by decide) (by decide), okT_of (by decide)⟩
theorem chkU_f9 : R23.chkU 3 (foN (-1)) [foC] = 0 := R23.chkU_0 (by decide) (by decide) ⟨ends_1 (by decide) (by decide), okT_of (by decide)⟩
theorem chkU_o : R23.chkU 1 [] [] = 0 := R23.chkU_0 (by decide) (by decide) ⟨ends_0, okT_of (by decide)⟩
theorem chkU_5 : R23.chkU 5 [] [] = 0 := R23.chkU_0 (by decide) (by decide) ⟨ends_0, okT_of (by decide)⟩
theorem chk_f3 : chkS 3 (foN 1) [foC] 3 = 0 := (chkS_3 chkU_f1 (by decide) (by decide)).trans (by decide)
theorem chk_f2 : chkS 3 (foN 1) [foC] 2 = 0 := (chkS_3 chkU_f1 (by decide) (by decide)).trans (by decide)
theorem chk_f15 : chkS 3 (foN 1) [foC] 15 = 0 := (chkS_3 chkU_f1 (by decide) (by decide)).trans (by decide)
theorem chk_g9 : chkS 3 (foN (-1)) [foC] 9 = 0 := (chkS_3 chkU_f9 (by decide) (by decide)).trans (by decide)
theorem chk_o1 : chkS 1 [] [] 1 = 0 := (chkS_3 chkU_o (by decide) (by decide)).trans (by decide)
theorem chk_o0 : chkS 1 [] [] 0 = 1 := chkS_1 chkU_o (by decide)
theorem chk_55 : chkS 5 [] [] 5 = 2 := chkS_2 chkU_5 (by decide) (by decide)
theorem vt_f3 : Vt ⟨3, 3, foN 1, [foC]⟩ 0 (List.replicate 3 0) := (Vt_dec v_f3).2 rfl
theorem vt_f2 : ¬ Vt ⟨3, 2, foN 1, [foC]⟩ 0 (List.replicate 3 0) := fun h => by cases (Vt_dec v_f2).1 h
theorem vt_g9 : ¬ Vt ⟨3, 9, foN (-1), [foC]⟩ 0 (List.replicate 3 0) := fun h => by cases (Vt_dec v_g9).1 h
theorem vt_o1 : Vt ⟨1, 1, [], []⟩ 0 (List.replicate 1 0) := (Vt_dec v_one).2 rfl
theorem rd_nil {n T : Int} {L C : List Lk} (h : chkS n L C T = 0) : rdC n L C T [] = 0 := rdC_0 h (by decide) (fun i r hr => by simp at hr)
theorem wn_o : wnG ⟨1, 1, [], []⟩ [] = false := by
 unfold wnG
 refine @decide_eq_false _ (Classical.propDecidable _) fun h => ?_
 have h2 : WnB ⟨1, 1, [], []⟩ (fun _ _ => none) 2 0 [0] = false := by decide +kernel
 have h3 : WnB ⟨1, 1, [], []⟩ (fun _ _ => none) 2 0 [0] = true := WnB_iff.2 h
 rw [h2] at h3; cases h3
def row1 (K : Option Addr) (D : Option Addr) : DW := ⟨0, [0], [0], K, 1, D, 1⟩
theorem tab1 (K D : Option Addr) : tabW [row1 K D] = fun (k : Nat) (l : List Int) => if (0 : Int) = (k : Int) /\ [(0 : Int)] = l then some [0] else none := by
 funext k l
 unfold tabW rowOf row1
 rw [List.find?_cons]
 simp only
 by_cases h1 : (0 : Int) = (k : Int)
 ·by_cases h2 : [(0 : Int)] = l
  ·rw [decide_eq_true h1, decide_eq_true h2, if_pos ⟨h1, h2⟩]; rfl
  ·rw [decide_eq_true h1, decide_eq_false h2, if_neg (fun h => h2 h.2)]; rfl
 ·rw [decide_eq_false h1, if_neg (fun h => h1 h.1)]; rfl
theorem rd_1 (K D : Option Addr) : rdC 1 [] [] 1 [row1 K D] = 0 := rdC_0 chk_o1 (by simp) (fun i r hr => by
 cases i with
 | succ i => simp at hr
 | zero =>
  simp only [List.getElem?_cons_zero, Option.some.injEq] at hr
  subst hr
  refine ⟨(by show (0 : Int) <= 0; decide), (by show (0 : Int) <= 1; decide), rfl, (by show [(0 : Int)] ≠ []; decide), (fun j p h => (by cases h)), (fun i x hx => ?_), (fun x hx => ?_)⟩
  ·cases i with
   | succ i => simp [row1] at hx
   | zero => simp only [row1, List.getElem?_cons_zero, Option.some.injEq] at hx; subst hx; exact ⟨(by show (-1 : Int) < 0; decide), (by decide)⟩
  ·simp only [row1, List.mem_singleton] at hx; subst hx; exact ⟨(by decide), (by show (0 : Int) <= 0 + 1; decide)⟩)
theorem wn_1 (K D : Option Addr) : wnG ⟨1, 1, [], []⟩ [row1 K D] = true := by
 unfold wnG
 refine @decide_eq_true _ (Classical.propDecidable _) ?_
 rw [tab1]
 refine WnB_iff.1 ?_
 decide +kernel
theorem pl_f3 : plA ⟨3, 3, foN 1, [foC]⟩ [2] (tabW []) = [0, 0, 0] := by
 have : plA ⟨3, 3, foN 1, [foC]⟩ [2] (fun _ _ => none) = [0, 0, 0] := by decide +kernel
 exact this
theorem plc_f3 : plc 3 (foN 1) [foC] 3 [] [2] = 0 := plc_0 (rd_nil chk_f3) ⟨rfl, fun i x hx => by
 cases i with
 | succ i => simp at hx
 | zero => simp only [List.getElem?_cons_zero, Option.some.injEq] at hx; subst hx; decide⟩
end R24
end Go.Proofs

set_option maxRecDepth 100000
set_option maxHeartbeats 400000000
namespace Go.Proofs
open Go.RowKit Go.Kin Go.Kin.St Go.Kin.Ct
open R22
namespace R23
/-- few, or too many -/
def fewB (n : Int) (l c : Nat) : Bool := decide (¬ (30 < l /\ l <= 256) /\ l <= 300 /\ ¬ (30 < c /\ c <= 256) /\ c <= 300 /\ (n <= 16 ∨ 64 < n))
theorem Few_calls (u : Un) (w : World) : Calls Tryz.prog 19 ⟨[.agg ⟨u.v⟩]⟩ w fun e w' => e = .returned (.bool (fewB u.n u.L.length u.C.length)) /\ Below w.heap.size w w' := by
 obtain ⟨n, A, cap, L, B, cab, C⟩ := u
 simp only [Un.v]
 generalize L.length = l
 generalize C.length = c
 refine fEn Tryz.func19 rfl Tryz.ntmps19 rfl rfl (sWn w) ?_
 unfold fewB
 by_cases a1 : 30 < l /\ l <= 256
 ·obtain ⟨a1, a2⟩ := a1
  rw [decide_eq_false (by omega)]
  repeat (first|refine lVa rfl rfl (by first|exact pEv rfl|exact vLd rfl (by repeat constructor) rfl (by rfl)|fail) ?_|refine lNi ?_|refine cRg ?_|refine cSq ?_|refine xTh ?_|refine l_skip rfl rfl ?_|refine r_box rfl rfl rfl rfl (fun _ => ?_)|refine c_true rfl ?_|refine c_ret ?_|refine xTr ?_|refine l_dec_t rfl rfl rfl rfl rfl (by first|omega|fail) ?_|fail)
  exact x_ret rfl rfl (by repeat constructor) rfl (fun W hW => ⟨rfl, hW.below⟩)
 by_cases a2 : 300 < l
 ·rw [decide_eq_false (by omega)]
  repeat (first|refine lVa rfl rfl (by first|exact pEv rfl|exact vLd rfl (by repeat constructor) rfl (by rfl)|fail) ?_|refine lNi ?_|refine cRg ?_|refine cSq ?_|refine xTh ?_|refine l_skip rfl rfl ?_|refine r_box rfl rfl rfl rfl (fun _ => ?_)|refine c_true rfl ?_|refine c_ret ?_|refine xTr ?_|refine l_dec_t rfl rfl rfl rfl rfl (by first|omega|fail) ?_|refine l_dec_f rfl rfl rfl rfl rfl (by first|omega|fail) ?_|fail)
  exact x_ret rfl rfl (by repeat constructor) rfl (fun W hW => ⟨rfl, hW.below⟩)
 have a3 : l <= 30 ∨ 256 < l := by omega
 clear a1
 by_cases b1 : 30 < c /\ c <= 256
 ·obtain ⟨b1, b2⟩ := b1
  rw [decide_eq_false (by omega)]
  rcases a3 with a3 | a3
  ·repeat (first|refine lVa rfl rfl (by first|exact pEv rfl|exact vLd rfl (by repeat constructor) rfl (by rfl)|fail) ?_|refine lNi ?_|refine cRg ?_|refine cSq ?_|refine xTh ?_|refine l_skip rfl rfl ?_|refine r_box rfl rfl rfl rfl (fun _ => ?_)|refine c_true rfl ?_|refine c_ret ?_|refine xTr ?_|refine l_dec_t rfl rfl rfl rfl rfl (by first|omega|fail) ?_|refine l_dec_f rfl rfl rfl rfl rfl (by first|omega|fail) ?_|fail)
   exact x_ret rfl rfl (by repeat constructor) rfl (fun W hW => ⟨rfl, hW.below⟩)
  ·repeat (first|refine lVa rfl rfl (by first|exact pEv rfl|exact vLd rfl (by repeat constructor) rfl (by rfl)|fail) ?_|refine lNi ?_|refine cRg ?_|refine cSq ?_|refine xTh ?_|refine l_skip rfl rfl ?_|refine r_box rfl rfl rfl rfl (fun _ => ?_)|refine c_true rfl ?_|refine c_ret ?_|refine xTr ?_|refine l_dec_t rfl rfl rfl rfl rfl (by first|omega|fail) ?_|refine l_dec_f rfl rfl rfl rfl rfl (by first|omega|fail) ?_|fail)
   exact x_ret rfl rfl (by repeat constructor) rfl (fun W hW => ⟨rfl, hW.below⟩)
 by_cases b2 : 300 < c
 ·rw [decide_eq_false (by omega)]
  rcases a3 with a3 | a3
  ·repeat (first|refine lVa rfl rfl (by first|exact pEv rfl|exact vLd rfl (by repeat constructor) rfl (by rfl)|fail) ?_|refine lNi ?_|refine cRg ?_|refine cSq ?_|refine xTh ?_|refine l_skip rfl rfl ?_|refine r_box rfl rfl rfl rfl (fun _ => ?_)|refine c_dec_t rfl (by first|omega|fail) ?_|refine c_ret ?_|refine xTr ?_|refine l_dec_t rfl rfl rfl rfl rfl (by first|omega|fail) ?_|refine l_dec_f rfl rfl rfl rfl rfl (by first|omega|fail) ?_|fail)
   exact x_ret rfl rfl (by repeat constructor) rfl (fun W hW => ⟨rfl, hW.below⟩)
  ·repeat (first|refine lVa rfl rfl (by first|exact pEv rfl|exact vLd rfl (by repeat constructor) rfl (by rfl)|fail) ?_|refine lNi ?_|refine cRg ?_|refine cSq ?_|refine xTh ?_|refine r_box rfl rfl rfl rfl (fun _ => ?_)|refine c_dec_t rfl (by first|omega|fail) ?_|refine c_ret ?_|refine xTr ?_|refine l_dec_t rfl rfl rfl rfl rfl (by first|omega|fail) ?_|refine l_dec_f rfl rfl rfl rfl rfl (by first|omega|fail) ?_|fail)
   exact x_ret rfl rfl (by repeat constructor) rfl (fun W hW => ⟨rfl, hW.below⟩)
 have b3 : c <= 30 ∨ 256 < c := by omega
 clear b1
 by_cases n1 : n <= 16
 ·rw [decide_eq_true (by omega)]
  rcases a3 with a3 | a3 <;> rcases b3 with b3 | b3
  all_goals
   repeat (first|refine lVa rfl rfl (by first|exact pEv rfl|exact vLd rfl (by repeat constructor) rfl (by rfl)|fail) ?_|refine lNi ?_|refine cRg ?_|refine cSq ?_|refine xTh ?_|refine l_skip rfl rfl ?_|refine r_box rfl rfl rfl rfl (fun _ => ?_)|refine c_dec_f rfl (by first|omega|fail) ?_|refine cSk ?_|refine c_ret ?_|refine l_dec_t rfl rfl rfl rfl rfl (by first|omega|fail) ?_|refine l_dec_f rfl rfl rfl rfl rfl (by first|omega|fail) ?_|fail)
   exact x_ret rfl rfl (by repeat constructor) rfl (fun W hW => ⟨rfl, hW.below⟩)
 ·by_cases n2 : 64 < n
  ·rw [decide_eq_true (by omega)]
   rcases a3 with a3 | a3 <;> rcases b3 with b3 | b3
   all_goals
    repeat (first|refine lVa rfl rfl (by first|exact pEv rfl|exact vLd rfl (by repeat constructor) rfl (by rfl)|fail) ?_|refine lNi ?_|refine cRg ?_|refine cSq ?_|refine xTh ?_|refine l_skip rfl rfl ?_|refine r_box rfl rfl rfl rfl (fun _ => ?_)|refine c_dec_f rfl (by first|omega|fail) ?_|refine cSk ?_|refine c_ret ?_|refine l_dec_t rfl rfl rfl rfl rfl (by first|omega|fail) ?_|refine l_dec_f rfl rfl rfl rfl rfl (by first|omega|fail) ?_|fail)
    exact x_ret rfl rfl (by repeat constructor) rfl (fun W hW => ⟨by rw [decide_eq_true n2], hW.below⟩)
  ·rw [decide_eq_false (by omega)]
   rcases a3 with a3 | a3 <;> rcases b3 with b3 | b3
   all_goals
    repeat (first|refine lVa rfl rfl (by first|exact pEv rfl|exact vLd rfl (by repeat constructor) rfl (by rfl)|fail) ?_|refine lNi ?_|refine cRg ?_|refine cSq ?_|refine xTh ?_|refine l_skip rfl rfl ?_|refine r_box rfl rfl rfl rfl (fun _ => ?_)|refine c_dec_f rfl (by first|omega|fail) ?_|refine cSk ?_|refine c_ret ?_|refine l_dec_t rfl rfl rfl rfl rfl (by first|omega|fail) ?_|refine l_dec_f rfl rfl rfl rfl rfl (by first|omega|fail) ?_|fail)
    exact x_ret rfl rfl (by repeat constructor) rfl (fun W hW => ⟨by rw [decide_eq_false n2], hW.below⟩)
end R23
end Go.Proofs

namespace Go.Proofs
open Go.RowKit Go.Kin Go.Kin.St Go.Kin.Ct Go.Kin.Sg
namespace R24
end R24
end Go.Proofs

set_option maxRecDepth 100000
set_option maxHeartbeats 400000000
namespace Go.Proofs
open Go.RowKit Go.Kin Go.Kin.St Go.Kin.Ct Go.Kin.Sg
namespace R24
def kF (n T : Int) : Nat := if 1 <= T /\ T <= 15 then (T.toNat + 2) ^ (min n.toNat 7) else 1
open Classical in
noncomputable def fwB (n : Int) (L C : List Lk) (T : Int) : Bool := R23.fewB n L.length C.length && decide (kF n T <= 3000 ∨ chkS n L C T ≠ 0)
theorem pow17 {T k : Nat} (hT : T <= 15) (hk : k <= 7) : (T + 2) ^ k <= 410338673 :=
 Nat.le_trans (Nat.pow_le_pow_left (show T + 2 <= 17 by omega) k) (Nat.le_trans (Nat.pow_le_pow_right (by omega) hk) (by decide))
theorem powS2 {T k : Nat} : (((T + 2) ^ k : Nat) : Int) * ((T : Int) + 2) = (((T + 2) ^ (k + 1) : Nat) : Int) := by rw [Nat.pow_succ]; push_cast; rfl
theorem fewB_len {n : Int} {l c : Nat} (h : R23.fewB n l c = true) : l <= 300 /\ c <= 300 := by unfold R23.fewB at h; have := of_decide_eq_true h; omega
theorem fwB_ok {n : Int} {L C : List Lk} {T : Int} (h : fwB n L C T = true) : L.length <= 300 /\ C.length <= 300 /\ (chkS n L C T = 0 -> (T.toNat + 2) ^ n.toNat <= 3000) := by
 unfold fwB at h
 rw [Bool.and_eq_true] at h
 obtain ⟨h1, h2⟩ := fewB_len h.1
 refine ⟨h1, h2, fun h0 => ?_⟩
 rcases of_decide_eq_true h.2 with h3 | h3
 ·obtain ⟨_, t1, t2, n6, _⟩ := chkS_ok h0
  unfold kF at h3
  rw [if_pos ⟨t1, t2⟩, show min n.toNat 7 = n.toNat by omega] at h3
  exact h3
 ·exact absurd h0 h3
theorem FewS_calls (u : R23.Un) (T : Int) (w : World) (hA : u.In w) :
  Calls Tryz.prog 6 ⟨[.agg ⟨u.v⟩, .int .i64 T]⟩ w fun e w' => e = .returned (.bool (fwB u.n u.L u.C T)) /\ Below w.heap.size w w' := by
 have hfw : ∀ (mem : List (Nat × Obj)) (W : World), SatW w (base w) noJ mem W -> Calls Tryz.prog 19 ⟨[.agg ⟨u.v⟩]⟩ W fun e w' => e = .returned (.bool (R23.fewB u.n u.L.length u.C.length)) /\ Below W.heap.size W w' := fun mem W hW => R23.Few_calls u W
 have hck : R23.fewB u.n u.L.length u.C.length = true -> ∀ (mem : List (Nat × Obj)) (W : World), SatW w (base w) noJ mem W -> Calls Tryz.prog 20 ⟨[.agg ⟨u.v⟩, .int .i64 T]⟩ W fun e w' => e = .returned (.int .i64 (chkS u.n u.L u.C T)) /\ Below W.heap.size W w' := fun hf mem W hW => by
  obtain ⟨h1, h2⟩ := fewB_len hf
  exact CheckR_calls u T W (hA.sat hW) (by omega) (by omega)
 obtain ⟨n, A, cap, L, B, cab, C⟩ := u
 simp only [R23.Un.v] at hfw hck ⊢
 refine fEn Tryz.func6 rfl Tryz.ntmps6 rfl rfl (sWn w) ?_
 repeat (first|refine lVa rfl rfl (by first|exact pEv rfl|exact vLd rfl (by repeat constructor) rfl (by rfl)|fail) ?_|refine lNi ?_|refine cRg ?_|refine cSq ?_|refine xTh ?_|refine r_box rfl rfl rfl rfl (fun _ => ?_)|fail)
 refine r_call rfl rfl rfl (fun W hW => hfw _ W hW) ?_
 cases hf : R23.fewB n L.length C.length with
 | false =>
  have hv : fwB n L C T = false := by unfold fwB; rw [hf]; rfl
  rw [hv]
  repeat (first|refine lVa rfl rfl (by first|exact pEv rfl|fail) ?_|refine lNi ?_|refine cRg ?_|refine cSq ?_|refine xTh ?_|refine c_true rfl ?_|refine c_ret ?_|refine xTr ?_|fail)
  exact x_ret rfl rfl (by repeat constructor) rfl (fun W hW => ⟨rfl, hW.below⟩)
 | true =>
  have hck := hck hf
  repeat (first|refine lVa rfl rfl (by first|exact pEv rfl|fail) ?_|refine lNi ?_|refine cRg ?_|refine cSq ?_|refine xTh ?_|refine c_false rfl ?_|refine cBl ?_|refine cSk ?_|fail)
  rename_i b2
  obtain ⟨M, hM⟩ : ∃ M, (if 1 <= T /\ T <= 15 then min n.toNat 7 else 0) = M := ⟨_, rfl⟩
  have hM7 : M <= 7 := by rw [<- hM]; split <;> omega
  obtain ⟨t, ht⟩ : ∃ t : Nat, (if 1 <= T /\ T <= 15 then T.toNat else 0) = t := ⟨_, rfl⟩
  have ht15 : t <= 15 := by rw [<- ht]; split <;> omega
  have hkF : kF n T = (t + 2) ^ M := by
   unfold kF
   by_cases hT : 1 <= T /\ T <= 15
   ·rw [if_pos hT] at hM ht
    rw [if_pos hT, hM, ht]
   ·rw [if_neg hT] at hM
    rw [if_neg hT, <- hM, Nat.pow_zero]
  refine c_loop (ι := Nat) (fun k => k <= M) (fun k => [(1, .int .i64 T), (2, .pointer (some ⟨b2, 0, none⟩)), (6, .int .i64 (((t + 2) ^ k : Nat) : Int)), (7, .int .i64 k)]) (fun _ => [(b2, .cells ⟨[.int .i64 n, .slice A L.length cap, .slice B C.length cab]⟩ 24 (0, 0))]) (fun k => M - k) 0 (Nat.zero_le _) (by repeat (first|exact .nil|refine .cons rfl (by first|rfl|(congr 1; done)|exact congrArg _ (by omega)|(simp; done)) ?_)) (by repeat (first|exact .nil|refine .keep (by first|rfl|assumption) ?_|refine .drop ?_|exact MSub.refl _)) ?_
  intro k hk
  have hp1 := pow17 (T := t) (k := k) ht15 (by omega)
  by_cases hlt : k < M
  ·have hp2 := pow17 (T := t) (k := k + 1) ht15 (by omega)
   have hps := powS2 (T := t) (k := k)
   have hT : 1 <= T /\ T <= 15 := by
    by_cases h : 1 <= T /\ T <= 15
    ·exact h
    ·rw [if_neg h] at hM; omega
   rw [if_pos hT] at hM ht
   have hTt : T = (t : Int) := by omega
   obtain ⟨hT1, hT2⟩ := hT
   subst hTt
   have hkn : (k : Int) < n := by omega
   repeat (first|refine lVa rfl rfl (by first|exact v_add rfl rfl (by omega) (by omega)|exact v_mul rfl rfl (by omega) (by omega)|exact pEv rfl|exact vLd rfl (by repeat constructor) rfl (by rfl)|fail) ?_|refine lNi ?_|refine cRg ?_|refine cSq ?_|refine xTh ?_|refine c_dec_t rfl (by first|omega|fail) ?_|refine cBl ?_|refine cSk ?_|refine x_block ?_|refine l_dec_t rfl rfl rfl rfl rfl (by first|omega|fail) ?_|fail)
   rw [hps]
   exact x_back (k + 1) hlt (by omega) (by repeat (first|exact .nil|refine .cons rfl (by first|rfl|(congr 1; done)|exact congrArg _ (by omega)|(simp; done)) ?_)) (by repeat (first|exact .nil|refine .keep (by first|rfl|assumption) ?_|refine .drop ?_|exact MSub.refl _))
  have hkM : k = M := by omega
  subst hkM
  have hcase : ¬ ((k : Int) < n) ∨ ((k : Int) < n /\ 6 < (k : Int)) ∨ ((k : Int) < n /\ (k : Int) <= 6 /\ T < 1) ∨ ((k : Int) < n /\ (k : Int) <= 6 /\ 1 <= T /\ 15 < T) := by
   by_cases hT : 1 <= T /\ T <= 15
   ·rw [if_pos hT] at hM; omega
   ·omega
  have hkt : ∀ {X : Prop}, ((((t + 2) ^ k : Nat) : Int) <= 3000 ∨ X) -> (kF n T <= 3000 ∨ X) := fun h => h.imp_left fun h => by rw [hkF]; omega
  by_cases h3 : (((t + 2) ^ k : Nat) : Int) <= 3000
  ·have hv : fwB n L C T = true := by
    unfold fwB; rw [hf, Bool.true_and]; exact decide_eq_true (hkt (.inl h3))
   rw [hv]
   rcases hcase with q1 | ⟨q1, q2⟩ | ⟨q1, q2, q3⟩ | ⟨q1, q2, q3, q4⟩
   all_goals
    repeat (first|refine lVa rfl rfl (by first|exact pEv rfl|exact vLd rfl (by repeat constructor) rfl (by rfl)|fail) ?_|refine lNi ?_|refine cRg ?_|refine cSq ?_|refine xTh ?_|refine l_skip rfl rfl ?_|refine c_false rfl ?_|refine c_dec_f rfl (by first|omega|fail) ?_|refine c_ret ?_|refine c_exit ?_|refine xTe ?_|refine xBs ?_|refine l_dec_t rfl rfl rfl rfl rfl (by first|omega|fail) ?_|refine l_dec_f rfl rfl rfl rfl rfl (by first|omega|fail) ?_|fail)
    exact x_ret rfl rfl (by repeat constructor) rfl (fun W hW => ⟨rfl, hW.below⟩)
  ·have hv : fwB n L C T = decide (chkS n L C T ≠ 0) := by
    unfold fwB; rw [hf, Bool.true_and, Bool.eq_iff_iff, decide_eq_true_iff, decide_eq_true_iff]
    constructor
    ·rintro (h | h)
     ·rw [hkF] at h; omega
     ·exact h
    ·exact fun h => .inr h
   rw [hv]
   rcases hcase with q1 | ⟨q1, q2⟩ | ⟨q1, q2, q3⟩ | ⟨q1, q2, q3, q4⟩
   all_goals
    repeat (first|refine lVa rfl rfl (by first|exact pEv rfl|exact vLd rfl (by repeat constructor) rfl (by rfl)|fail) ?_|refine lNi ?_|refine cRg ?_|refine cSq ?_|refine xTh ?_|refine l_skip rfl rfl ?_|refine c_false rfl ?_|refine c_dec_f rfl (by first|omega|fail) ?_|refine c_exit ?_|refine xTe ?_|refine xBs ?_|refine l_dec_t rfl rfl rfl rfl rfl (by first|omega|fail) ?_|refine l_dec_f rfl rfl rfl rfl rfl (by first|omega|fail) ?_|fail)
    refine r_call rfl rfl rfl (fun W hW => hck _ W hW) ?_
    repeat (first|refine lVa rfl rfl (by first|exact pEv rfl|fail) ?_|refine lNi ?_|refine xTh ?_|refine c_ret ?_|fail)
    exact x_ret rfl rfl (by repeat constructor) rfl (fun W hW => ⟨rfl, hW.below⟩)
end R24
end Go.Proofs

namespace Go.Proofs
open Go.RowKit Go.Kin Go.Kin.St Go.Kin.Ct Go.Kin.Sg
namespace R24
theorem winsV_yes {n T : Nat} {L C : List Lk} {rows : List DW} (h : rdC n L C T rows = 0) : winsV n L C T rows = .tuple ⟨[.bool (wnG ⟨n, T, L, C⟩ rows), .int .i64 0]⟩ := by
 unfold winsV; rw [if_neg (fun g => g h), Int.toNat_natCast, Int.toNat_natCast]
theorem spoilsV_yes {n T : Nat} {L C : List Lk} {rows : List DW} (h : rdC n L C T rows = 0) : spoilsV n L C T rows = .tuple ⟨[.bool (spG ⟨n, T, L, C⟩ rows), .int .i64 0]⟩ := by
 unfold spoilsV; rw [if_neg (fun g => g h), Int.toNat_natCast, Int.toNat_natCast]
theorem rdC_small {n : Int} {L C : List Lk} {T : Int} {rows : List DW} (h : rdC n L C T rows = 0) : rows.length <= 10000000 /\ ∀ r ∈ rows, r.l.length <= 1000 /\ r.d.length <= 1000 := by
 obtain ⟨h0, hok⟩ := rdC_ok h
 obtain ⟨_, t1, t2, n6, _⟩ := chkS_ok h0
 refine ⟨?_, fun r hr => ?_⟩
 ·by_cases h2 : 4096 < rows.length
  ·rw [rdC_2 h0 h2] at h; cases h
  ·omega
 ·obtain ⟨i, hi, rfl⟩ := List.mem_iff_getElem.1 hr
  have ho := hok i _ (List.getElem?_eq_getElem hi)
  have hinc := toN_inc ho.o
  have hl := nodup_lt (m := n.toNat) (l := toN rows[i].d) (hinc.imp fun h => Nat.ne_of_lt h) (fun x hx => by
   unfold toN at hx
   obtain ⟨y, hy, rfl⟩ := List.mem_map.1 hx
   obtain ⟨j, hj, rfl⟩ := List.mem_iff_getElem.1 hy
   have := pv_inc ho.o (List.getElem?_eq_getElem hj)
   omega)
  have hll := ho.l
  unfold toN at hl
  rw [List.length_map] at hl
  omega

end R24
end Go.Proofs

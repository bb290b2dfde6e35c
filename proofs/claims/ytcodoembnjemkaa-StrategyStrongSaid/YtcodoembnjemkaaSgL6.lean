/- Games on networks: times of Strong and of Earliest, and who wins. Plain Lean. -/
import Derived.Test.YtcodoembnjemkaaStEar
import Derived.Test.YtcodoembnjemkaaEng8
import Derived.Deep.Slices
import Derived.Deep.Fields
import Derived.Lib.SmallJoins
import Derived.ChangeSame
import Derived.Test.YtcodoembnjemkaaProg
import Derived.Test.YtcodoembnjemkaaSgWn
import Derived.Test.YtcodoembnjemkaaCtSol
set_option linter.unusedSectionVars false
set_option linter.unusedVariables false
set_option linter.unusedSimpArgs false
namespace Go.Proofs
open Go.RowKit Go.Kin Go.Kin.St Go.Kin.Ct Go.Kin.Sg
namespace R24
def tzL (N : Nat) (z : Nat -> Int) : List Int := (List.range N).map z
theorem tzL_len {N : Nat} {z : Nat -> Int} : (tzL N z).length = N := by unfold tzL; simp
theorem tzL_tf {N : Nat} {z : Nat -> Int} {q : Nat} (h : q < N) : R23.tf (tzL N z) q = z q := by
 unfold R23.tf tzL
 rw [List.getD_eq_getElem?_getD, List.getElem?_map, List.getElem?_range h]; rfl
/-- the longest durations -/
def lgL (C : List Lk) : List Int := C.map fun x => x.hi
theorem lgL_tf {C : List Lk} {i : Nat} (h : i < C.length) : R23.tf (lgL C) i = hiOf C i := by
 unfold R23.tf lgL hiOf
 rw [List.getD_eq_getElem?_getD, List.getElem?_map, List.getElem?_eq_getElem h]; rfl
theorem lsum_congr {f g : Nat -> Int} : ∀ {l : List Nat}, (∀ i ∈ l, f i = g i) -> lsum f l = lsum g l
 | [], _ => rfl
 | i :: l, h => by rw [lsum, lsum, h i List.mem_cons_self, lsum_congr fun j hj => h j (List.mem_cons_of_mem _ hj)]
theorem at_congr {N : Nat} {C : List Lk} (hT : Tree N C) {t t' d d' : Nat -> Int} (h1 : ∀ q, q < N -> t q = t' q) (h2 : ∀ i, i < C.length -> d i = d' i) {p : Nat} (hp : p < N) : at_ C N t d p = at_ C N t' d' p := by
 obtain ⟨r, hr, e, _⟩ := hT.root_in hp
 unfold at_
 rw [e, Int.toNat_natCast, h1 r hr, lsum_congr fun i hi => h2 i (Tree.chain_lt i hi)]
section
variable {N t : Nat} {L C : List Lk} {z : Nat -> Int}
theorem str_play (hT : Tree N C) {p : Nat} (hp : p < N) : at_ C N (R23.tf (tzL N z)) (R23.tf (lgL C)) p = at_ C N z (hiOf C) p :=
 at_congr hT (fun q hq => tzL_tf hq) (fun i hi => lgL_tf hi) hp
theorem str_times (h0 : R23.chkU N L C = 0) (hN : N <= 6) (hT : Tree N C) (hF : Fine N L) (hc : C.length <= 30) (hz : R23.str N L C = some z) : R23.Times (tzL N z) := fun x hx => by
 obtain ⟨_, hLe⟩ := R23.str_least hz
 have hE := R23.str_in h0
 rw [Int.toNat_natCast] at hLe hE
 unfold tzL at hx
 obtain ⟨q, hq, rfl⟩ := List.mem_map.1 hx
 have hq := List.mem_range.1 hq
 have h1 := hLe.pos q hq
 have h2 := least_le (W := 34084860461056) (by decide) (fun e he => (R23.redE_few hT hF hc e he).1) hE hLe q hq
 omega
theorem str_wins (h0 : R23.chkU N L C = 0) (h1 : ∀ x ∈ C, 1 <= x.lo) (hT : Tree N C) (hF : Fine N L) (hz : R23.str N L C = some z) (hin : ∀ x ∈ R23.plL C N (tzL N z) (lgL C), x <= (t : Int)) : Vt ⟨N, t, L, C⟩ 0 (List.replicate N 0) := by
 obtain ⟨_, hLe⟩ := R23.str_least hz
 rw [Int.toNat_natCast] at hLe
 refine strong_Vt (z := z) hT (fun i x hx => ?_) (fun x hx => ?_) (fun q hq => hLe.pos q hq) (fun q hq => ?_) (fun d hd x hx => kept_link fun u => sol_keeps hT hF hLe.sol hd hx u)
 ·have hm : x ∈ C := List.mem_of_getElem? hx
  obtain ⟨c1, c2, c3, c4, c5, c6, c7, c8⟩ := hT.cal x hm
  have := h1 x hm
  exact ⟨this, c7, c1, by show x.fr.toNat < N; omega⟩
 ·obtain ⟨f1, f2, f3, f4, _⟩ := hF x hx
  exact ⟨f1, f2, f3, f4⟩
 ·rw [<- str_play (z := z) hT hq]
  refine hin _ ?_
  unfold R23.plL
  exact List.mem_map.2 ⟨q, List.mem_range.2 hq, rfl⟩
end
section
variable {N t : Nat} {L : List Lk}
theorem sol_links {z : Nat -> Int} : Sol (edges L) z ↔ ∀ x ∈ L, x.lo <= z x.to.toNat - z x.fr.toNat /\ z x.to.toNat - z x.fr.toNat <= x.hi := by
 constructor
 ·intro h x hx
  have a := h _ (edges_mem.2 ⟨x, hx, .inl rfl⟩)
  have b := h _ (edges_mem.2 ⟨x, hx, .inr rfl⟩)
  unfold up at a
  unfold dn at b
  simp only at a b
  omega
 ·intro h e he
  obtain ⟨x, hx, rfl | rfl⟩ := edges_mem.1 he
  ·have := h x hx; unfold up; simp only; omega
  ·have := h x hx; unfold dn; simp only; omega
theorem ear_no (h0 : R22.chk N L = 0) (he : R22.ear N L = none) : ¬ Vt ⟨N, t, L, []⟩ 0 (List.replicate N 0) := fun hv => by
 obtain ⟨z, _, h2⟩ := Vt_sched hv
 exact R22.ear_none he h0 z (sol_links.2 h2)
theorem ear_yes {U : Nat -> Int} (hT : Tree N []) (hF : Fine N L) (he : R22.ear N L = some U) : Vt ⟨N, t, L, []⟩ 0 (List.replicate N 0) ↔ ∀ x ∈ tzL N U, x <= (t : Int) := by
 obtain ⟨_, hLe⟩ := R22.ear_least he
 rw [Int.toNat_natCast] at hLe
 constructor
 ·intro hv x hx
  obtain ⟨z, h1, h2⟩ := Vt_sched hv
  unfold tzL at hx
  obtain ⟨q, hq, rfl⟩ := List.mem_map.1 hx
  have hq := List.mem_range.1 hq
  have := hLe.le z (sol_links.2 h2) (fun x hx => (h1 x hx).1) q hq
  have := (h1 q hq).2
  omega
 ·intro h
  have ha : ∀ (d : Nat -> Int) (q : Nat), at_ [] N U d q = U q := fun d q => at_top (by rfl)
  refine strong_Vt (z := U) hT (fun i x hx => by simp at hx) (fun x hx => ?_) (fun q hq => hLe.pos q hq) (fun q hq => ?_) (fun d _ x hx => ?_)
  ·obtain ⟨f1, f2, f3, f4, _⟩ := hF x hx
   exact ⟨f1, f2, f3, f4⟩
  ·rw [ha]
   exact h _ (List.mem_map.2 ⟨q, List.mem_range.2 hq, rfl⟩)
  ·obtain ⟨f1, f2, f3, f4, _⟩ := hF x hx
   have := sol_links.1 hLe.sol x hx
   have e1 : at_ [] N U d x.to = U x.to.toNat := by have := ha d x.to.toNat; rwa [show ((x.to.toNat : Nat) : Int) = x.to by omega] at this
   have e2 : at_ [] N U d x.fr = U x.fr.toNat := by have := ha d x.fr.toNat; rwa [show ((x.fr.toNat : Nat) : Int) = x.fr by omega] at this
   rw [e1, e2]; exact this
end
end R24
end Go.Proofs

namespace Go.Proofs
open Go.RowKit Go.Kin Go.Kin.St
namespace R22

def rsEd (s : RS) : Ed := ⟨s.a.toNat, s.b.toNat, s.w⟩
theorem raw_edges (l : List Lk) : (raw l).map rsEd = edges l := by
 have : ∀ i, (rawFrom i l).map rsEd = edges l := by
  induction l with
  | nil => intro i; rfl
  | cons x l ih => intro i; simp only [rawFrom, List.map_cons, ih, edges]; rfl
 exact this 0
theorem edges_get {l : List Lk} {k : Nat} {s : RS} (h : (raw l)[k]? = some s) : (edges l)[k]? = some (rsEd s) := by
 rw [<- raw_edges, List.getElem?_map, h]; rfl

/-- the steps' iterator, in a round -/
theorem it_ofD {w W W1 : World} {D : Nat -> Prop} {J : (Nat -> Prop) -> World -> Prop} {mem : List (Nat × Obj)} {b : Nat} {n : Int} {A : Option Addr} {cap : Nat} {l : List Lk} (hl : l.length <= 1000) (hA : At w A 4 (l.map lkE)) (hAD : ∀ a, A = some a -> l ≠ [] -> D a.block) (hF : Fine n l) (hn : n <= 64)
  (hm : SatW w D J mem W) (hb : (b, Obj.cells ⟨netCells n A l.length cap⟩ 49 (0, 0)) ∈ mem) (hs : Same (fun _ => True) W W1) : It Try.prog 84 [.pointer (some ⟨b, 0, none⟩)] rsE (raw l) (fun k => D k ∨ k = b) W1 := by
 have hlt := hm.lt hb
 simp only at hlt
 have hsz := hs.size
 refine steps_it _ b n A cap l W1 hl (hs.obj (hm.own _ hb).2 trivial) ((hA.satD (fun a ha hne => hAD a ha (fun e => hne (by rw [e]; rfl))) hm).later (hs.below (Nat.le_refl _) fun _ _ => trivial)) hF hn ?_ (.inr rfl) ?_
 ·rintro k (hk | rfl)
  ·have := hm.same.size; have := hm.dom k hk; omega
  ·omega
 ·exact fun a ha hne => .inl (hAD a ha hne)

theorem at_base {w : World} {A : Option Addr} {l : List Lk} (hA : At w A 4 (l.map lkE)) (a : Addr) (ha : A = some a) (hne : l ≠ []) : base w a.block := by
 obtain ⟨x, l', rfl⟩ := List.exists_cons_of_ne_nil hne
 obtain ⟨b', o, h1, h2⟩ := hA 0 (lkE x) rfl
 rw [ha] at h1
 cases h1
 exact lt_of_cell (h2 0 _ rfl)

theorem raises_within {n : Int} {l : List Lk} {K : Int} {t : Nat -> Int} (hF : Fine n l) (hK : Within K t) (j : Nat) : Within (K + 1099511627776 * j) (((edges l).take j).foldl raise t) := by
 induction j with
 | zero => simpa using hK
 | succ j ih =>
  by_cases hj : j < (edges l).length
  ·rw [fold_take _ _ _ hj]
   have hw := hF.weights _ (List.getElem_mem hj)
   exact (raise_within ih hw.1 hw.2).mono (by omega)
  ·rw [List.take_of_length_le (by omega)] at ih ⊢
   exact ih.mono (by omega)
theorem passes_within2 {n : Int} {l : List Lk} (hF : Fine n l) (hl : l.length <= 256) (k : Nat) : Within (562949953421312 * k) (passes (edges l) k (fun _ => 0)) := by
 induction k with
 | zero => exact Within.zero (by omega)
 | succ k ih =>
  have h := raises_within hF ih (edges l).length
  rw [List.take_length] at h
  have := edges_len l
  exact h.mono (by omega)
theorem Ear_calls (n : Int) (A : Option Addr) (cap : Nat) (l : List Lk) (w : World) (hl : l.length <= 1000) (hA : At w A 4 (l.map lkE)) :
  Calls Try.prog 23 ⟨[.agg ⟨netCells n A l.length cap⟩]⟩ w (EarQ n l w) := by
 refine fEn Try.func23 rfl Try.ntmps23 rfl rfl (sWn w) ?_
 repeat (first|refine lVa rfl rfl (by first|exact pEv rfl|exact vLd rfl (by repeat constructor) rfl (by rfl)|fail) ?_|refine lNi ?_|refine cRg ?_|refine cSq ?_|refine xTh ?_|refine r_box rfl rfl rfl rfl (fun _ => ?_)|refine r_alloc rfl rfl rfl (by first|exact aggL|fail) (fun _ => ?_)|refine c_scope ?_|fail)
 refine r_call rfl rfl rfl (fun W hW => check_calls n A cap l W hl (hA.sat hW)) ?_
 repeat' (first|refine lVa rfl rfl (by first|exact pEv rfl|exact vLd rfl (by repeat constructor) rfl (by rfl)|fail) ?_|refine lNi ?_|refine cRg ?_|refine cSq ?_|refine xTh ?_|refine rSt rfl rfl rfl rfl rfl rfl rfl (by repeat constructor) (by rfl) ?_|refine cSk ?_|refine c_ret ?_|refine xTr ?_|refine x_scope_ret ?_|refine c_dec rfl (fun _ => ?_) (fun _ => ?_)|fail)
 ·rename_i b1 b2 h1
  exact x_ret rfl rfl (by repeat constructor) rfl (fun W hW => .inl ⟨ear_bad h1, rfl, hW.below⟩)
 ·rename_i b1 b2 h0
  have h0 := Decidable.not_not.1 h0
  obtain ⟨c1, c2, c3, hF⟩ := chk_fine h0
  obtain ⟨N, rfl⟩ : ∃ N : Nat, n = N := ⟨n.toNat, by omega⟩
  repeat (first|refine lVa rfl rfl (by first|exact v_add rfl rfl (by omega) (by omega)|exact pEv rfl|exact vLd rfl (by repeat constructor) rfl (by rfl)|fail) ?_|refine lNi ?_|refine cRg ?_|refine cSq ?_|refine xTh ?_|refine rSt rfl rfl rfl rfl rfl rfl rfl (by repeat constructor) (by rfl) ?_|refine r_make rfl rfl rfl rfl rfl rfl (by first|rfl|fail) (by omega) (by omega) rfl rfl (by first|exact flat_int|fail) (fun _ => ?_)|refine cBl ?_|refine c_label ?_|fail)
  rename_i b3
  refine c_loopD (ι := Nat × List Nat) (fun p => p.1 <= N + 1 /\ ∀ j, j < p.1 -> ¬ Sol (edges l) (passes (edges l) j (fun _ => 0))) (fun p => p.2.map Kin.mark) (fun _ => noJ)
   (fun p => [(1, .pointer (some ⟨b1, 0, none⟩)), (2, .pointer (some ⟨b2, 0, none⟩)), (19, .int .i64 (N + 1)), (20, .int .i64 p.1)])
   (fun p => (b3, .cells ⟨ivec N (passes (edges l) p.1 (fun _ => 0))⟩ 3 (0, 0)) :: (b2, .cells ⟨[.slice (some ⟨b3, 0, none⟩) N N]⟩ 26 (0, 0)) :: (b1, .cells ⟨netCells N A l.length cap⟩ 49 (0, 0)) :: p.2.map opn)
   (fun p => N + 1 - p.1) (0, []) ⟨by omega, fun j hj => by omega⟩ rfl rfl (by repeat (first|exact .nil|refine .cons rfl (by first|rfl|(congr 1; done)|exact congrArg _ (by omega)|(simp; done)) ?_)) (by repeat (first|exact .nil|refine .keep (by first|rfl|assumption) ?_|refine .drop ?_|exact MSub.refl _)) ?_
  rintro ⟨q, Ds⟩ ⟨hk, hT⟩
  simp only at hk hT ⊢
  by_cases hlt : q <= N
  ·obtain ⟨t, ht⟩ : ∃ t, passes (edges l) q (fun _ => 0) = t := ⟨_, rfl⟩
   have hw : Within (562949953421312 * q) t := by rw [<- ht]; exact passes_within2 hF c3 q
   rw [ht]
   repeat (first|refine lVa rfl rfl (by first|exact pEv rfl|exact vLd rfl (by repeat constructor) rfl (by rfl)|fail) ?_|refine lNi ?_|refine cRg ?_|refine cSq ?_|refine xTh ?_|refine c_dec_t rfl (by first|omega|fail) ?_|refine cBl ?_|refine cSk ?_|fail)
   refine r_call1 (ι := Nat) (bk := fun b => b) rfl rfl rfl (fun W hW => steps_calls N A l.length cap W) (fun b5 => ?_)
   repeat (first|refine lNi ?_|refine xTh ?_|refine cBl ?_|fail)
   refine c_range rsE (raw l) (Rd w b5) [(b5, .cells ⟨netCells N A l.length cap⟩ 49 (0, 0))] (ι := Option Nat) (fun o => o.getD 0) (fun o => ∃ k, o = some k /\ Sol ((edges l).take k) t)
    (fun o => match o with
     | some _ => (b3, .cells ⟨ivec N t⟩ 3 (0, 0)) :: (b2, .cells ⟨[.slice (some ⟨b3, 0, none⟩) N N]⟩ 26 (0, 0)) :: (b1, .cells ⟨netCells N A l.length cap⟩ 49 (0, 0)) :: Ds.map opn
     | none => (b3, .cells ⟨ivec N (pass (edges l) t)⟩ 3 (0, 0)) :: (b2, .cells ⟨[.slice (some ⟨b3, 0, none⟩) N N]⟩ 26 (0, 0)) :: (b1, .cells ⟨netCells N A l.length cap⟩ 49 (0, 0)) :: Ds.map opn)
    (fun c o => c = .exit 1 /\ o = none /\ ¬ Sol (edges l) t) (some 0) rfl (fun W W1 hW hs => it_of hl hA hF c2 hW (by repeat constructor) hs) (fun b hb => hb.imp id fun e => by simp [e]) (fun _ _ => rfl) (by decide) rfl ⟨0, rfl, fun e he => by cases he⟩ (by repeat (first|exact .nil|refine .keep (by first|rfl|assumption) ?_|refine .drop ?_|exact MSub.refl _))
    (env' := [(1, .pointer (some ⟨b1, 0, none⟩)), (2, .pointer (some ⟨b2, 0, none⟩))]) (by repeat (first|exact .nil|refine .cons rfl (by first|rfl|(congr 1; done)|exact congrArg _ (by omega)|(simp; done)) ?_)) ?_ ?_ ?_
   ·rintro _ ⟨k, rfl, hI⟩ hk m lp W1 hW1 hDl hol
    simp only [Option.getD_some] at hk ⊢
    obtain ⟨s, hs⟩ : ∃ s, (raw l)[k] = s := ⟨_, rfl⟩
    have hs2 : (raw l)[k]? = some s := by rw [List.getElem?_eq_getElem hk, hs]
    rw [hs]
    have hf := raw_fine hF hs2
    have hw1 := hw s.a.toNat
    have hw2 := hw s.b.toNat
    repeat (first|refine lNi ?_|refine cRg ?_|refine r_alloc rfl rfl rfl (by first|exact aggL|fail) (fun _ => ?_)|refine rSt rfl rfl rfl rfl rfl rfl rfl (by repeat constructor) (by rfl) ?_|fail)
    refine x_body hW1 hDl hol (fun n2 W2 r hW2 hr2 ho => ?_)
    repeat' (first|refine lVa rfl rfl (by first|exact vLd rfl (by repeat constructor) rfl (by rfl)|fail) ?_|refine cRg ?_|refine cSq ?_|refine xTh ?_|refine cBl ?_|refine cSk ?_|refine x_block ?_|refine c_reads rfl (by decide +kernel) ?_|refine q_val rfl rfl (by first|exact v_sub rfl rfl (by omega) (by omega)|exact pEv rfl|exact vLd rfl (by repeat constructor) rfl (by rfl)|exact v_index rfl rfl rfl rfl (by omega) (by omega) (by with_reducible first|exact idx5 _|fail)|exact v_load_at rfl (by repeat constructor) rfl rfl (by first|exact ivec_get (by omega)|fail)|fail) ?_|refine q_nil ?_|refine c_dec rfl (fun _ => ?_) (fun _ => ?_)|fail)
    ·rename_i hno
     have hbad : ¬ Sol (edges l) t := fun h => by
      have h1 := h (rsEd s) (List.mem_of_getElem? (edges_get hs2))
      simp only [rsEd] at h1; omega
     have hA2 := hA.sat hW2
     have hAD : ∀ a, A = some a -> l ≠ [] -> outside _ W2 a.block := fun a ha hne => hW2.within (at_base hA a ha hne)
     refine r_call1 (ι := Nat) (bk := fun b => b) rfl rfl rfl (fun W hW => steps_calls N A l.length cap W) (fun b6 => ?_)
     repeat (first|refine lNi ?_|refine xTh ?_|refine cBl ?_|fail)
     refine c_rangeN rsE (raw l) _ [(b6, .cells ⟨netCells N A l.length cap⟩ 49 (0, 0))] (ι := Nat) (fun j => j) (fun j => j <= (raw l).length)
      (fun j => (b3, .cells ⟨ivec N (((edges l).take j).foldl raise t)⟩ 3 (0, 0)) :: (b2, .cells ⟨[.slice (some ⟨b3, 0, none⟩) N N]⟩ 26 (0, 0)) :: (b1, .cells ⟨netCells N A l.length cap⟩ 49 (0, 0)) :: Ds.map opn)
      (fun _ _ => False) 0 hr2 ho rfl (fun W W1 hW hs => it_ofD hl hA2 hAD hF c2 hW (by repeat constructor) hs) (fun b hb => hb.imp id fun e => by simp [e]) (fun _ _ => rfl) (by decide) rfl (Nat.zero_le _) (by repeat (first|exact .nil|refine .keep (by first|rfl|assumption) ?_|refine .drop ?_|exact MSub.refl _))
      (env' := [(2, .pointer (some ⟨b2, 0, none⟩))]) (by repeat (first|exact .nil|refine .cons rfl (by first|rfl|(congr 1; done)|exact congrArg _ (by omega)|(simp; done)) ?_)) ?_ ?_ ?_
     ·intro j _ hj m3 lp3 W3 hW3 hDl3 hol3
      obtain ⟨s', hs'⟩ : ∃ s, (raw l)[j] = s := ⟨_, rfl⟩
      have hs3 : (raw l)[j]? = some s' := by rw [List.getElem?_eq_getElem hj, hs']
      rw [hs']
      have hf' := raw_fine hF hs3
      obtain ⟨u, hu⟩ : ∃ u, ((edges l).take j).foldl raise t = u := ⟨_, rfl⟩
      have hwu : Within (562949953421312 * q + 1099511627776 * j) u := by rw [<- hu]; exact raises_within hF hw j
      have hu2 : ((edges l).take (j + 1)).foldl raise t = iset u s'.a.toNat (max (u s'.a.toNat) (u s'.b.toNat - s'.w)) := by
       rw [List.take_add_one, edges_get hs3, List.foldl_append, hu]; rfl
      have hw3 := hwu s'.a.toNat
      have hw4 := hwu s'.b.toNat
      have hj2 : j <= 512 := by have := raw_len l; omega
      rw [hu] at hW3 hol3 ⊢
      repeat (first|refine lNi ?_|refine cRg ?_|refine r_alloc rfl rfl rfl (by first|exact aggL|fail) (fun _ => ?_)|refine rSt rfl rfl rfl rfl rfl rfl rfl (by repeat constructor) (by rfl) ?_|fail)
      refine x_body hW3 hDl3 hol3 (fun n4 W4 r4 hW4 hr4 ho4 => ?_)
      repeat (first|refine cBl ?_|refine x_block ?_|refine c_cut rfl (by decide +kernel) ?_|refine h_val rfl rfl (by first|exact v_sub rfl rfl (by omega) (by omega)|exact pEv rfl|exact vLd rfl (by repeat constructor) rfl (by rfl)|exact v_index rfl rfl rfl rfl (by omega) (by omega) (by with_reducible first|exact idx5 _|fail)|exact v_load_at rfl (by repeat constructor) rfl rfl (by first|exact ivec_get (by omega)|fail)|fail) ?_|refine h_do1 rfl (by decide +kernel) (by decide +kernel) rfl rfl (by first|exact d_store_at rfl rfl rfl rfl rfl (by repeat constructor) (by first|(rw [ivec_length]; omega)|fail) (by first|exact ivec_set|fail)|fail) ?_|fail)
      refine x_next (j + 1) rfl hj ?_
      rw [hu2]
      exact (by repeat (first|exact .nil|refine .keep (by first|rfl|assumption) ?_|refine .drop ?_|exact MSub.refl _))
     ·intro j hj _
      subst hj
      have hlen : (raw l).length = (edges l).length := by rw [<- raw_edges, List.length_map]
      rw [hlen, List.take_length]
      repeat (first|refine xTh ?_|refine c_exit ?_|refine x_block ?_|refine x_block_other rfl ?_|fail)
      exact x_leave none ⟨rfl, rfl, hbad⟩ (by repeat (first|exact .nil|refine .keep (by first|rfl|assumption) ?_|refine .drop ?_|exact MSub.refl _))
     ·intro c i h
      exact h.elim
    ·rename_i hyes
     refine x_next (some (k + 1)) rfl ⟨_, rfl, ?_⟩ (by repeat (first|exact .nil|refine .keep (by first|rfl|assumption) ?_|refine .drop ?_|exact MSub.refl _))
     intro e he
     rw [List.take_add_one, edges_get hs2] at he
     rcases List.mem_append.1 he with h | h
     ·exact hI e h
     ·simp only [Option.toList_some, List.mem_singleton] at h
      rw [h]; simp only [rsEd]; omega
   ·rintro B _ hk ⟨k, rfl, hI⟩
    simp only [Option.getD_some] at hk
    subst hk
    have hlen : (raw l).length = (edges l).length := by rw [<- raw_edges, List.length_map]
    rw [hlen, List.take_length] at hI
    subst ht
    obtain ⟨L, h1, h2⟩ := ear_of h0 (sol_least hF.inE hI)
    repeat (first|refine lVa rfl rfl (by first|exact pEv rfl|exact vLd rfl (by repeat constructor) rfl (by rfl)|fail) ?_|refine lNi ?_|refine cRg ?_|refine cSq ?_|refine xTh ?_|refine rSt rfl rfl rfl rfl rfl rfl rfl (by repeat constructor) (by rfl) ?_|refine c_ret ?_|refine xTr ?_|refine x_block ?_|refine xBr ?_|refine x_scope_ret ?_|fail)
    refine x_rets (Ds := B :: Ds) rfl rfl (by repeat (first|exact Split.nil|exact Split.all|apply Split.mark|apply Split.keep)) rfl (by repeat constructor) rfl (fun W hW => .inr ⟨L, b3, h1, rfl, hW.below, ?_⟩)
    have h := hW.own (b3, _) (by repeat constructor)
    have h3 : ivec N (passes (edges l) q fun _ => 0) = ivec N L := ivec_congr h2
    exact ⟨Nat.le_of_not_lt h.1, h.2.trans (congrArg (fun x => some (Obj.cells ⟨x⟩ 3 (0, 0))) h3)⟩
   ·rintro B _ _ ⟨rfl, rfl, hno⟩
    repeat (first|refine lVa rfl rfl (by first|exact v_add rfl rfl (by omega) (by omega)|exact pEv rfl|fail) ?_|refine lNi ?_|refine cRg ?_|refine xTh ?_|refine c_exit ?_|refine xTe ?_|refine xBs ?_|refine x_block_other rfl ?_|fail)
    subst ht
    refine x_sink4 (x_backD (q + 1, B :: Ds) ⟨by simp only; omega, fun j hj => ?_⟩ (by simp only; omega) rfl rfl (by repeat (first|exact .nil|refine .cons rfl (by first|rfl|(congr 1; done)|exact congrArg _ (by omega)|(simp; done)) ?_)) (by repeat (first|exact .nil|refine .keep (by first|rfl|assumption) ?_|refine .drop ?_|exact MSub.refl _)))
    by_cases hjq : j = q
    ·subst hjq; exact hno
    ·exact hT j (by simp only at hj; omega)
  ·have hq : q = N + 1 := by omega
   subst hq
   repeat (first|refine lVa rfl rfl (by first|exact pEv rfl|fail) ?_|refine lNi ?_|refine cRg ?_|refine cSq ?_|refine xTh ?_|refine rSt rfl rfl rfl rfl rfl rfl rfl (by repeat constructor) (by rfl) ?_|refine c_dec_f rfl (by first|omega|fail) ?_|refine c_ret ?_|refine c_exit ?_|refine xTe ?_|refine xBs ?_|refine x_scope_ret ?_|fail)
   refine x_rets (Ds := Ds) rfl rfl (by repeat (first|exact Split.nil|exact Split.all|apply Split.mark|apply Split.keep)) rfl (by repeat constructor) rfl (fun W hW => .inl ⟨ear_no fun s hs => ?_, by rw [h0]; rfl, hW.below⟩)
   exact none_sol hF.inE (Nat.le_refl _) (hT N (by omega)) s hs
end R22
end Go.Proofs

namespace Go
open Go.RowKit Go.ChangeShapes Go.WideShapes
namespace Kin
section
variable {H : Type} {enc : TypeId × Value -> H} {P : Program} {w : World}

/-- whatever reads as a datum of the type has cells of this kind -/
def Reads (enc : TypeId × Value -> H) (P : Program) (w : World) (t : TypeId) (R : List Value -> Prop) : Prop :=
 ∀ fuel cs x, DataW.trod enc P w 0 (fun _ => true) true fuel t cs = some x -> R cs

theorem Reads.mono {t : TypeId} {R S : List Value -> Prop} (h : Reads enc P w t R) (k : ∀ cs, R cs -> S cs) : Reads enc P w t S := fun f cs x hx => k cs (h f cs x hx)
theorem rd_int {t : TypeId} {k : IntKind} (ht : P.underlying t = some (.int k)) : Reads enc P w t fun cs => ∃ n, cs = [.int k n] /\ (Lit.int k n).wf = true := fun f cs x hx => by
 obtain ⟨n, h1, _, h2⟩ := DataW.trod_int ht hx
 exact ⟨n, h1, h2⟩
/-- a record: its cells, and each field's own -/
theorem rd_struct {t : TypeId} {fs : Array Field} {R : Nat -> List Value -> Prop} {n : Nat} (ht : P.underlying t = some (.struct fs)) (hn : P.cellsOf t = n) (hR : ∀ i f, fs[i]? = some f -> Reads enc P w f.type (R i)) :
  Reads enc P w t fun cs => cs.length = n /\ ∀ i f, fs[i]? = some f -> R i ((cs.drop f.offset).take (P.cellsOf f.type)) := fun fu cs x hx => by
 obtain ⟨xs, m, _, _, hl, hxl, h⟩ := DataW.trod_struct ht hx
 refine ⟨hl.trans hn, fun i f hi => ?_⟩
 have h1 := h i f hi
 have hlt : i < xs.length := by rw [hxl]; exact (Array.getElem?_eq_some_iff.1 hi).1
 rw [List.getElem?_eq_getElem hlt] at h1
 exact hR i f hi _ _ _ h1

/-- .. where each field is one cell -/
theorem rd_struct1 {t : TypeId} {fs : Array Field} {R : Nat -> List Value -> Prop} {n : Nat} (ht : P.underlying t = some (.struct fs)) (hone : Deep.oneCellFields P fs = true) (hn : P.cellsOf t = n) (hR : ∀ i f, fs[i]? = some f -> Reads enc P w f.type (R i)) :
  Reads enc P w t fun cs => cs.length = n /\ ∀ i f c, fs[i]? = some f -> cs[i]? = some c -> R i [c] := (rd_struct ht hn hR).mono fun cs ⟨h1, h2⟩ => ⟨h1, fun i f c hf hc => by
 have := h2 i f hf
 obtain ⟨o, k⟩ := Deep.hone_of hone i f hf
 rw [o, k] at this
 have hlt := (List.getElem?_eq_some_iff.1 hc).1
 rw [List.drop_eq_getElem_cons hlt, show cs[i] = c from (List.getElem?_eq_some_iff.1 hc).2] at this
 simpa using this⟩

/-- the rows of a slice -/
theorem rd_slice {t e : TypeId} {R : List Value -> Prop} {sz : Nat} (ht : P.underlying t = some (.slice e)) (hsz : P.cellsOf e = sz) (h0 : 0 < sz) (hR : Reads enc P w e R) :
  Reads enc P w t fun cs => ∃ A rows cap, cs = [.slice A (List.length rows) cap] /\ At w A sz rows /\ (∀ r ∈ rows, R r /\ r.length = sz) /\ rows.length <= cap /\ cap <= maxLen := fun fu cs x hx => by
 rcases Deep.open_slice ht hx with ⟨h1, _⟩ | ⟨a, len, cap, m, n, D, Pl, h1, _, hle, hmx, hm, _, hi⟩
 ·exact ⟨none, [], 0, h1, fun i r hr => by simp at hr, fun r hr => by simp at hr, Nat.le_refl _, Nat.zero_le _⟩
 ·simp only [if_true] at hm
  subst hm
  rw [hsz] at hi
  obtain ⟨V, hV⟩ := Deep.choose_lt (α := List Value) (p := fun i r => R r /\ r.length = sz /\ ∀ j, j < sz -> w.cell? ((a.add (i * sz)).add j) = r[j]?) (n := len) (fun i hil => by
   obtain ⟨cs', hc, ht'⟩ := hi i (by omega)
   obtain ⟨_, hl, hat⟩ := World.cells?_some hc
   exact ⟨cs', hR _ _ _ ht', hl, hat⟩)
  refine ⟨some a, (List.range len).map V, m, by rw [h1]; simp, ?_, ?_, by simpa using hle, hmx⟩
  ·intro i r hr
   have hil : i < len := by
    have := (List.getElem?_eq_some_iff.1 hr).1
    simpa using this
   have hr2 : V i = r := by
    rw [List.getElem?_map, List.getElem?_range hil] at hr
    simpa using hr
   have hsp : a.spot = none := by
    obtain ⟨_, hl, hat⟩ := hV 0 (by omega)
    have h3 := hat 0 h0
    rw [Nat.zero_mul] at h3
    have e0 : (a.add 0).add 0 = a := by simp [Addr.add]
    rw [e0, List.getElem?_eq_getElem (by omega)] at h3
    unfold World.cell? at h3
    split at h3
    ·split at h3
     ·cases h3
     ·rename_i hs; simpa using hs
    ·cases h3
   obtain ⟨b, o, s⟩ := a
   simp only at hsp
   subst hsp
   refine ⟨b, o, rfl, fun j v hj => ?_⟩
   obtain ⟨_, hl, hat⟩ := hV i hil
   rw [hr2] at hl hat
   have hjl : j < sz := by
    have := (List.getElem?_eq_some_iff.1 hj).1
    omega
   have h4 := hat j hjl
   rw [hj, Deep.add_add] at h4
   rw [<- h4]
   congr 1
   unfold Addr.add
   split
   ·rename_i e; simp only [Addr.mk.injEq, and_true, true_and]; omega
   ·simp only [Addr.mk.injEq, and_true, true_and]; omega
  ·intro r hr
   obtain ⟨i, hi2, rfl⟩ := List.mem_map.1 hr
   obtain ⟨h3, h4, _⟩ := hV i (List.mem_range.1 hi2)
   exact ⟨h3, h4⟩

theorem rows_map {α : Type} {e : α -> List Value} {Q : α -> Prop} : ∀ {rows : List (List Value)}, (∀ r ∈ rows, ∃ x, r = e x /\ Q x) -> ∃ l : List α, rows = l.map e /\ ∀ x ∈ l, Q x
 | [], _ => ⟨[], rfl, fun _ h => by cases h⟩
 | r :: rows, h => by
  obtain ⟨x, rfl, hx⟩ := h r List.mem_cons_self
  obtain ⟨l, rfl, hl⟩ := rows_map fun r hr => h r (List.mem_cons_of_mem _ hr)
  exact ⟨x :: l, rfl, fun y hy => by
   rcases List.mem_cons.1 hy with rfl | hy
   ·exact hx
   ·exact hl y hy⟩

/-- a slice whose elements are of the kind `e x` -/
theorem rd_list {α : Type} {t el : TypeId} {e : α -> List Value} {Q : α -> Prop} {sz : Nat} (ht : P.underlying t = some (.slice el)) (hsz : P.cellsOf el = sz) (h0 : 0 < sz) (hR : Reads enc P w el fun cs => ∃ x, cs = e x /\ Q x) :
  Reads enc P w t fun cs => ∃ A cap, ∃ l : List α, cs = [.slice A l.length cap] /\ At w A sz (l.map e) /\ (∀ x ∈ l, Q x) /\ l.length <= cap /\ cap <= maxLen := (rd_slice ht hsz h0 hR).mono fun cs ⟨A, rows, cap, h1, h2, h3, h4, h5⟩ => by
 obtain ⟨l, rfl, hl⟩ := rows_map (e := e) (Q := Q) fun r hr => (h3 r hr).1
 rw [List.length_map] at h1 h4
 exact ⟨A, cap, l, h1, h2, hl, h4, h5⟩

/-- an argument's cells -/
theorem rd_arg {t : TypeId} {R : List Value -> Prop} {v : Value} {d : DataW H} {p : List MemPlace} (hR : Reads enc P w t R) (h : DataW.Trod enc P w 0 (fun _ => true) true t v d p) : R v.cells.toList := by
 obtain ⟨f, hf⟩ := h
 exact hR f _ _ hf
theorem struct_arg {t : TypeId} {fs : Array Field} {r : Reach} {b : Nat} {v : Value} (ht : P.underlying t = some (.struct fs)) (hv : Value.okWide P w r b t v) : ∃ l : List Value, v = .agg ⟨l⟩ /\ v.cells.toList = l := by
 obtain ⟨⟨l⟩, rfl, _⟩ := okWide_struct ht hv
 exact ⟨l, rfl, rfl⟩

end
end Kin
end Go

set_option maxRecDepth 100000
set_option maxHeartbeats 400000000
namespace Go.Proofs
open Go.RowKit Go.Kin Go.Kin.St Go.Kin.Ct Go.Kin.Sg Go.ChangeShapes Go.WideShapes
namespace R24
open R22 (lkE)
section
variable {H : Type} {enc : TypeId × Value -> H} {w : World}
theorem int3 : Reads enc Try.prog w 3 fun cs => ∃ n, cs = [.int .i64 n] /\ (Lit.int .i64 n).wf = true := rd_int Try.underlying3
theorem rd_lk : Reads enc Try.prog w 43 fun cs => ∃ x : Lk, cs = lkE x /\ True :=
 (rd_struct1 (R := fun _ cs => ∃ n, cs = [.int .i64 n] /\ (Lit.int .i64 n).wf = true) (n := 4) Try.underlying43 (by kernel_rfl) (by kernel_rfl) (fun i f hi => by
  rcases i with _ | _ | _ | _ | i <;> simp at hi <;> subst hi <;> exact int3)).mono fun cs ⟨hl, h⟩ => by
 match cs, hl with
 | [c0, c1, c2, c3], _ =>
  obtain ⟨n0, e0, _⟩ := h 0 _ c0 rfl rfl
  obtain ⟨n1, e1, _⟩ := h 1 _ c1 rfl rfl
  obtain ⟨n2, e2, _⟩ := h 2 _ c2 rfl rfl
  obtain ⟨n3, e3, _⟩ := h 3 _ c3 rfl rfl
  cases e0; cases e1; cases e2; cases e3
  exact ⟨⟨n0, n1, n2, n3⟩, rfl, trivial⟩
theorem rd_links : Reads enc Try.prog w 22 fun cs => ∃ A cap, ∃ l : List Lk, cs = [.slice A l.length cap] /\ Kin.At w A 4 (l.map lkE) /\ (∀ x ∈ l, True) /\ l.length <= cap /\ cap <= maxLen := rd_list Try.underlying22 (by kernel_rfl) (by decide) rd_lk
theorem rd_un : Reads enc Try.prog w 24 fun cs => ∃ u : R23.Un, cs = u.v /\ u.In w :=
 (rd_struct1 (R := fun i cs => if i = 0 then ∃ n, cs = [.int .i64 n] /\ (Lit.int .i64 n).wf = true else ∃ A cap, ∃ l : List Lk, cs = [.slice A l.length cap] /\ Kin.At w A 4 (l.map lkE) /\ (∀ x ∈ l, True) /\ l.length <= cap /\ cap <= maxLen) (n := 3) Try.underlying24 (by kernel_rfl) (by kernel_rfl) (fun i f hi => by
  rcases i with _ | _ | _ | i <;> simp at hi <;> subst hi
  ·exact int3
  ·exact rd_links
  ·exact rd_links)).mono fun cs ⟨hl, h⟩ => by
 match cs, hl with
 | [c0, c1, c2], _ =>
  obtain ⟨n0, e0, hn⟩ := h 0 _ c0 rfl rfl
  obtain ⟨A, ca, l, e1, h1, _⟩ := h 1 _ c1 rfl rfl
  obtain ⟨B, cb, m, e2, h2, _⟩ := h 2 _ c2 rfl rfl
  cases e0; cases e1; cases e2
  exact ⟨⟨n0, A, ca, l, B, cb, m⟩, rfl, h1, h2⟩
variable {r : Reach} {b : Nat} {v : Value} {d : DataW H} {p : List MemPlace}
theorem arg_un (hv : Value.okWide Try.prog w r b 24 v) (h : DataW.Trod enc Try.prog w 0 (fun _ => true) true 24 v d p) : ∃ u : R23.Un, v = .agg ⟨u.v⟩ /\ u.In w := by
 obtain ⟨cs, rfl, e⟩ := struct_arg Try.underlying24 hv
 obtain ⟨u, h1, h2⟩ := rd_arg rd_un h
 exact ⟨u, by rw [<- e, h1], h2⟩
end
end R24
end Go.Proofs

namespace Go.Proofs
open Go.RowKit Go.Kin Go.Kin.St Go.Kin.Ct Go.Kin.Sg
namespace R24
theorem inE_rows (l : List Int) : (l.map inE).flatten.length = l.length * 1 := by
 induction l with
 | nil => rfl
 | cons x l ih => rw [List.map_cons, List.flatten_cons, List.length_append, ih, List.length_cons]; show 1 + _ = _; omega
/-- a list that has grown lies there -/
theorem gSlI_at {l : List Int} {b cap : Nat} {r : List Value} {w0 W : World} {D : Nat -> Prop} {J : (Nat -> Prop) -> World -> Prop} {mem : List (Nat × Obj)} (hW : SatW w0 D J mem W) (h : ∀ p ∈ gM inE 3 l b r, p ∈ mem) : ∃ A c, gSl l b cap = .slice A l.length c /\ At W A 1 (l.map inE) := by
 cases l with
 | nil => exact ⟨none, 0, rfl, fun i r h => by simp at h⟩
 | cons x l =>
  refine ⟨_, cap, rfl, fun i cs hi => ⟨b, 0, rfl, fun j v hj => ?_⟩⟩
  rw [List.getElem?_map] at hi
  obtain ⟨y, hy, rfl⟩ := Option.map_eq_some_iff.1 hi
  cases j with
  | succ j => cases hj
  | zero =>
   cases hj
   rw [hW.cellAt (h _ List.mem_cons_self), show 0 + i * 1 + 0 = i by omega]
   exact flI_get hy r
/-- a strategy of one's own, or none -/
structure Own where
 A : Option Addr
 c : Nat
 rows : List DW
 m : List (Nat × Obj)
structure Own.OK (o : Own) : Prop where
 s : ∀ W : World, (∀ p ∈ o.m, W.heap[p.1]? = some p.2) -> StrIn W o.A o.rows
 l : o.rows.length <= 10000000
 d : ∀ r ∈ o.rows, r.l.length <= 1000 /\ r.d.length <= 1000
end R24
end Go.Proofs

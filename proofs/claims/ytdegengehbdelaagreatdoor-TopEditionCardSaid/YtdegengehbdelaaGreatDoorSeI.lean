/- Stemmata: what lies below a node; plain. -/
import Derived.Test.YtdegengehbdelaaGreatDoorSeG
import Derived.Test.YtdegengehbdelaaGreatDoorEng43
set_option linter.unusedSectionVars false
set_option linter.unusedVariables false
set_option linter.unusedSimpArgs false
namespace Go.Proofs
open Go.RowKit Go.Kin Go.Kin.Se Go.Kin.Cl
namespace R41
/-! ## Maps that a call hands back -/
def encL (l : List (Int × Value)) : List (List Value) := l.map fun p => [.int .i64 p.1, p.2]
def decP : List Value -> Int × Value
 | [.int _ k, v] => (k, v)
 | _ => (0, .bool false)
def decL (rs : List (List Value)) : List (Int × Value) := rs.map decP
theorem dec_enc (l : List (Int × Value)) : decL (encL l) = l := by
 unfold decL encL
 rw [List.map_map]
 exact (List.map_congr_left fun p _ => rfl).trans (List.map_id _)
theorem im_ex (f : Int -> Option Value) : ∀ S : List Int, ∃ l, imOK l /\ ∀ q, imGet l q = if q ∈ S then f q else none
 | [] => ⟨[], List.nodup_nil, fun q => by simp [imGet]⟩
 | s :: S => by
  obtain ⟨l, h1, h2⟩ := im_ex f S
  cases hf : f s with
  | none =>
   refine ⟨l, h1, fun q => ?_⟩
   rw [h2]
   by_cases hq : q = s
   ·subst hq; simp [hf]
   ·simp [hq]
  | some v =>
   refine ⟨imPut l s v, imPut_ok h1, fun q => ?_⟩
   rw [imPut_get, h2]
   by_cases hq : q = s
   ·subst hq; simp [hf]
   ·simp [hq]
theorem mp_ex (E : BC) (t : Tr) : ∃ l, MpB E t l := by
 obtain ⟨l, h1, h2⟩ := im_ex (fun q => (bel E.S E.own t q).map iv) E.S
 exact ⟨l, h1, h2⟩
open Classical in
noncomputable def mpL (E : BC) (t : Tr) (rs : List (List Value)) : List (Int × Value) := if MpB E t (decL rs) then decL rs else Classical.choose (mp_ex E t)
theorem mpL_ok (E : BC) (t : Tr) (rs : List (List Value)) : MpB E t (mpL E t rs) := by
 unfold mpL
 split
 ·assumption
 ·exact Classical.choose_spec (mp_ex E t)
theorem mpL_enc {E : BC} {t : Tr} {l : List (Int × Value)} (h : MpB E t l) : mpL E t (encL l) = l := by
 unfold mpL
 rw [dec_enc, if_pos h]
def mpV : Array Value -> Pi -> Value := fun _ π => .map (some π.b)
noncomputable def mpO (E : BC) (t : Tr) : Array Value -> Pi -> List (Nat × Obj) := fun _ π => [(π.b, imO (mpL E t π.rs))]
theorem mpQ_L {E : BC} {t : Tr} {W W' : World} {e : Ending} (vs : Array Value) (h : MpQ E t W e W') : ∃ π, e = .returned (mpV vs π) /\ ∀ {w0 : World} {D : Nat -> Prop} {J : (Nat -> Prop) -> World -> Prop} (l : List (Nat × Obj)), SatW w0 D J l W -> SatW w0 D J (mpO E t vs π ++ l) W' := by
 obtain ⟨b, l, rfl, hb, h1, h2, h3⟩ := h
 refine ⟨⟨b, [], [], encL l⟩, rfl, fun m hm => ?_⟩
 unfold mpO
 simp only [mpL_enc h3]
 exact satW_L hm hb (by simp) fun p hp => by rw [List.mem_singleton.1 hp]; exact ⟨h1, h2⟩
/-! ## What has been paid -/
def low (E : BC) (t : Tr) (s : Int) : Nat := mn (E.S.filterMap fun q => (bel E.S E.own t q).map (· + stp s q))
def pay (E : BC) (l r : Tr) : Nat -> Int -> Option Nat
 | 0, _ => none
 | 1, s => some (low E l s)
 | _, s => some (low E l s + low E r s)
def keys (E : BC) (seen : List Nat) : List Int := seen.filterMap fun j => E.S[j]?
theorem keys_mem {E : BC} {seen : List Nat} {q : Int} : q ∈ keys E seen ↔ ∃ j ∈ seen, E.S[j]? = some q := List.mem_filterMap
structure PyI (E : BC) (l r : Tr) (k : Nat) (seen : List Nat) (m : List (Int × Value)) : Prop where
 ok : imOK m
 get : ∀ q, imGet m q = if q ∈ E.S then (pay E l r (k + if q ∈ keys E seen then 1 else 0) q).map iv else none
theorem pyI_0 {E : BC} {l r : Tr} : PyI E l r 0 [] [] := ⟨List.nodup_nil, fun q => by simp [imGet, keys, pay]⟩
theorem PyI.step {E : BC} {l r : Tr} {k : Nat} {seen : List Nat} {m : List (Int × Value)} {j : Nat} {s : Int} {v : Nat} (h : PyI E l r k seen m) (hs : E.S[j]? = some s) (hv : pay E l r (k + 1) s = some v) : PyI E l r k (seen ++ [j]) (imPut m s (iv v)) :=
 ⟨imPut_ok h.ok, fun q => by
  rw [imPut_get]
  have hk : q ∈ keys E (seen ++ [j]) ↔ q = s ∨ q ∈ keys E seen := by
   rw [keys_mem, keys_mem]
   constructor
   ·rintro ⟨i, hi, e⟩
    rcases List.mem_append.1 hi with h1 | h1
    ·exact .inr ⟨i, h1, e⟩
    ·rw [List.mem_singleton.1 h1, hs] at e
     exact .inl (Option.some.inj e).symm
   ·rintro (e | ⟨i, hi, e⟩)
    ·exact ⟨j, by simp, by rw [e]; exact hs⟩
    ·exact ⟨i, List.mem_append_left _ hi, e⟩
  by_cases hq : q = s
  ·subst hq
   rw [if_pos rfl, if_pos (List.mem_of_getElem? hs), if_pos (hk.2 (.inl rfl)), hv]; rfl
  ·rw [if_neg hq, h.get]
   by_cases hm : q ∈ E.S
   ·rw [if_pos hm, if_pos hm]
    by_cases hn : q ∈ keys E seen
    ·rw [if_pos hn, if_pos (hk.2 (.inr hn))]
    ·rw [if_neg hn, if_neg fun h => (hk.1 h).elim hq hn]
   ·rw [if_neg hm, if_neg hm]⟩
theorem PyI.next {E : BC} {l r : Tr} {k : Nat} {seen : List Nat} {m : List (Int × Value)} (h : PyI E l r k seen m) (ha : ∀ j, j < E.S.length -> j ∈ seen) : PyI E l r (k + 1) [] m :=
 ⟨h.ok, fun q => by
  rw [h.get]
  by_cases hm : q ∈ E.S
  ·obtain ⟨j, hj⟩ := List.getElem?_of_mem hm
   have hk : q ∈ keys E seen := keys_mem.2 ⟨j, ha j (List.getElem?_eq_some_iff.1 hj).1, hj⟩
   rw [if_pos hm, if_pos hm, if_pos hk]
   simp [keys]
  ·rw [if_neg hm, if_neg hm]⟩
theorem PyI.fin {E : BC} {l r : Tr} {m : List (Int × Value)} (h : PyI E l r 2 [] m) : MpB E (.nd l r) m :=
 ⟨h.ok, fun q => by rw [h.get]; simp only [keys, List.filterMap_nil, List.not_mem_nil, if_false]; rfl⟩
/-- what a state has so far -/
def had (E : BC) (l : Tr) (k : Nat) (s : Int) : Nat := if k = 0 then 0 else low E l s
def kid (l r : Tr) (k : Nat) : Tr := if k = 0 then l else r
theorem PyI.had {E : BC} {l r : Tr} {k : Nat} {seen : List Nat} {m : List (Int × Value)} (h : PyI E l r k seen m) {j : Nat} {s : Int} (hn : E.S.Nodup) (hs : E.S[j]? = some s) (hj : j ∉ seen) (hk : k < 2) : (match imGet m s with | some v => v | none => .int .i64 0) = iv (had E l k s) := by
 have hm : s ∉ keys E seen := fun h => by
  obtain ⟨i, hi, e⟩ := keys_mem.1 h
  exact hj (nd_get hn hs e ▸ hi)
 rw [h.get, if_pos (List.mem_of_getElem? hs), if_neg hm]
 match k, hk with
 | 0, _ => rfl
 | 1, _ => rfl
theorem pay_step {E : BC} {l r : Tr} {k : Nat} {s : Int} (hk : k < 2) : pay E l r (k + 1) s = some (had E l k s + low E (kid l r k) s) := by
 match k, hk with
 | 0, _ => simp [pay, Go.Proofs.R41.had, kid]
 | 1, _ => simp [pay, Go.Proofs.R41.had, kid]
/-! ## What is collected of a part -/
def cV : Value -> Nat
 | .int _ c => c.toNat
 | _ => 0
def colL (lx : List (Int × Value)) (s : Int) (seen : List Nat) : List Nat := seen.filterMap fun j => (lx[j]?).map fun p => cV p.2 + stp s p.1
theorem colL_snoc {lx : List (Int × Value)} {s : Int} {seen : List Nat} {j : Nat} {p : Int × Value} (h : lx[j]? = some p) : colL lx s (seen ++ [j]) = colL lx s seen ++ [cV p.2 + stp s p.1] := by
 unfold colL
 rw [List.filterMap_append]
 simp [h]
theorem MpB.at' {E : BC} {t : Tr} {lx : List (Int × Value)} (h : MpB E t lx) {j : Nat} {p : Int × Value} (hj : lx[j]? = some p) : ∃ c, p.2 = iv c /\ p.1 ∈ E.S /\ bel E.S E.own t p.1 = some c := by
 have h1 := imGet_at h.ok hj
 rw [h.get] at h1
 split at h1
 ·rename_i hm
  obtain ⟨c, hc, e⟩ := Option.map_eq_some_iff.1 h1
  exact ⟨c, e.symm, hm, hc⟩
 ·cases h1
theorem MpB.len {E : BC} {t : Tr} {lx : List (Int × Value)} (h : MpB E t lx) : lx.length <= E.S.length := by
 have := h.ok.length_le_of_subset (l₂ := E.S) fun q hq => by
  obtain ⟨p, hp, rfl⟩ := List.mem_map.1 hq
  obtain ⟨j, hj⟩ := List.getElem?_of_mem hp
  obtain ⟨_, _, h2, _⟩ := h.at' hj
  exact h2
 rwa [List.length_map] at this
theorem colL_end {E : BC} {t : Tr} {lx : List (Int × Value)} (h : MpB E t lx) {s : Int} {seen : List Nat} (ha : ∀ j, j < lx.length -> j ∈ seen) : mn (colL lx s seen) = low E t s := by
 refine mn_mem fun x => ?_
 unfold colL
 rw [List.mem_filterMap, List.mem_filterMap]
 constructor
 ·rintro ⟨j, _, e⟩
  obtain ⟨p, hp, rfl⟩ := Option.map_eq_some_iff.1 e
  obtain ⟨c, h1, h2, h3⟩ := h.at' hp
  refine ⟨p.1, h2, ?_⟩
  rw [h3, h1]
  simp [iv, cV]
 ·rintro ⟨q, hq, e⟩
  obtain ⟨c, hc, rfl⟩ := Option.map_eq_some_iff.1 e
  have hg := h.get q
  rw [if_pos hq, hc] at hg
  obtain ⟨j, hj⟩ := imGet_some hg
  refine ⟨j, ha j (List.getElem?_eq_some_iff.1 hj).1, ?_⟩
  rw [hj]
  simp [iv, cV]
theorem colL_ne {E : BC} {t : Tr} {lx : List (Int × Value)} (h : MpB E t lx) (hf : Fit E.S E.own t) {s : Int} {seen : List Nat} (ha : ∀ j, j < lx.length -> j ∈ seen) : colL lx s seen ≠ [] := by
 obtain ⟨q, hq, c, hc⟩ := bel_some hf
 have hg := h.get q
 rw [if_pos hq, hc] at hg
 obtain ⟨j, hj⟩ := imGet_some hg
 exact List.ne_nil_of_mem (List.mem_filterMap.2 ⟨j, ha j (List.getElem?_eq_some_iff.1 hj).1, by rw [hj]; rfl⟩)
theorem colL_bd {E : BC} {t : Tr} {lx : List (Int × Value)} (h : MpB E t lx) (hf : Fit E.S E.own t) {s : Int} {seen : List Nat} : ∀ x ∈ colL lx s seen, x <= t.sz + 4 := fun x hx => by
 obtain ⟨j, _, e⟩ := List.mem_filterMap.1 hx
 obtain ⟨p, hp, rfl⟩ := Option.map_eq_some_iff.1 e
 obtain ⟨c, h1, _, h3⟩ := h.at' hp
 have := bel_le hf _ _ h3
 have := stp_le s p.1
 rw [h1]
 have : cV (iv c) = c := by simp [iv, cV]
 omega
theorem colL_len {lx : List (Int × Value)} {s : Int} {seen : List Nat} : (colL lx s seen).length <= seen.length := List.length_filterMap_le _ _
theorem low_bd {E : BC} {t : Tr} (hf : Fit E.S E.own t) (s : Int) : low E t s <= t.sz + 4 := by
 obtain ⟨⟨q, _, c, hc, he⟩, _⟩ := part_spec hf s
 have := bel_le hf _ _ hc
 have := stp_le s q
 unfold low
 omega
/-- a list in an own block, as rows -/
theorem gSl_atN {l : List Nat} {b cap : Nat} {r : List Value} {w0 W : World} {D : Nat -> Prop} {J : (Nat -> Prop) -> World -> Prop} {mem : List (Nat × Obj)} (hW : SatW w0 D J mem W) (h : ∀ p ∈ gM nE 3 l b r, p ∈ mem) : ∃ A c, gSl l b cap = .slice A l.length c /\ At W A 1 (l.map nE) := by
 cases l with
 | nil => exact ⟨none, 0, rfl, fun i r h => by simp at h⟩
 | cons x l =>
  refine ⟨_, cap, rfl, fun i cs hi => ⟨b, 0, rfl, fun j v hj => ?_⟩⟩
  rw [List.getElem?_map] at hi
  cases hq : (x :: l)[i]? with
  | none => rw [hq] at hi; cases hi
  | some y =>
   rw [hq] at hi; cases hi
   cases j with
   | succ j => cases hj
   | zero =>
    cases hj
    rw [hW.cellAt (h _ List.mem_cons_self)]
    have h1 : (((x :: l).map nE).flatten)[i]? = some (.int .i64 (y : Int)) := by
     have : ((x :: l).map nE).flatten = (x :: l).map fun x : Nat => Value.int .i64 (x : Int) := by
      clear h hq hW
      induction (x :: l) with
      | nil => rfl
      | cons z t ih => rw [List.map_cons, List.flatten_cons, ih]; rfl
     rw [this, List.getElem?_map, hq]; rfl
    rw [show 0 + i * 1 + 0 = i by omega, List.getElem?_append_left (List.getElem?_eq_some_iff.1 h1).1, h1]
end R41
end Go.Proofs

set_option maxRecDepth 100000
set_option maxHeartbeats 400000000
namespace Go.Proofs
open Go.RowKit Go.Kin Go.Kin.Se Go.Kin.Cl
namespace R41
theorem node_calls (E : BC) (hE : BOK E) (l r : Tr) (w : World) (hB : BEnv E w) (m : Nat) (hm : (Tr.nd l r).st = m) (hs : singleB m = false) (hp : prt E.cl m = some (l.st, r.st)) (hm0 : 0 < m) (hm1 : m < 64) (fl : Fit E.S E.own l) (fr : Fit E.S E.own r) (zl : l.sz <= 1000) (zr : r.sz <= 1000)
  (hl : ∀ W, BEnv E W -> Calls Tryz.prog 68 ⟨.int .i64 (l.st : Int) :: E.env⟩ W (MpQ E l W)) (hr : ∀ W, BEnv E W -> Calls Tryz.prog 68 ⟨.int .i64 (r.st : Int) :: E.env⟩ W (MpQ E r W)) :
  Calls Tryz.prog 68 ⟨.int .i64 (m : Int) :: E.env⟩ w (MpQ E (.nd l r) w) := by
 have x4 := ext1o hB.h4
 have x7 := ext1o hB.h7
 have x10 := ext1o hB.h10
 have hcD : base w E.bc := lt_of_heap hB.hc
 have hcll := hE.cll
 have hsg := fun W => single_calls m W hm1
 rw [hs] at hsg
 have hpt := fun W (hW : Below w.heap.size w W) => parts_calls E.Ac E.capc E.cl m W (hB.ac.later hW) hcll hm1 hm0
 rw [hp] at hpt
 unfold BC.env ptrV at x10 hl hr ⊢
 obtain ⟨sl, hsl⟩ : ∃ sl, l.st = sl := ⟨_, rfl⟩
 obtain ⟨sr, hsr⟩ : ∃ sr, r.st = sr := ⟨_, rfl⟩
 rw [hsl] at hl hpt
 rw [hsr] at hr hpt
 refine fEn Tryz.func68 rfl Tryz.ntmps68 rfl rfl (sWn w) ?_
 repeat (first|refine lVa rfl rfl (by first|exact pEv rfl|fail) ?_|refine lNi ?_|refine cRg ?_|refine cSq ?_|refine xTh ?_|refine r_makeMap rfl rfl (fun _ => ?_)|fail)
 rename_i bo
 refine r_call rfl rfl rfl (fun W _ => hsg W) ?_
 repeat (first|refine lVa rfl rfl (by first|exact pEv rfl|exact vL0 rfl (by assumption) rfl (by rfl)|fail) ?_|refine lNi ?_|refine cRg ?_|refine cSq ?_|refine xTh ?_|refine c_false rfl ?_|refine cSk ?_|fail)
 refine r_call rfl rfl rfl (fun W hW => hpt W hW.below) ?_
 unfold prtV
 repeat (first|refine lVa rfl rfl (by first|exact pEv rfl|fail) ?_|refine lNi ?_|refine cSq ?_|refine xTh ?_|fail)
 refine c_new 0 3 [(2, .calL [0] mpV (mpO E l)), (5, .calL [1] mpV (mpO E r)), (6, .new 2)] [(2, [0]), (5, [1]), (6, [2])] [] rfl (by decide +kernel) rfl ?_
 repeat (first|refine e_val rfl rfl rfl rfl (by first|exact pEv rfl|exact vL0 rfl (by assumption) rfl (by rfl)|fail) ?_|fail)
 refine e_callvL rfl rfl rfl rfl rfl rfl rfl (by decide) (fun _ => Nat.le_refl _) rfl (fun W hW => ?_) (fun π0 => ?_)
 ·refine (hl W (hB.later hW.below)).mono fun e W' h => ?_
  obtain ⟨π, h1, h2⟩ := mpQ_L ⟨_⟩ h
  exact ⟨π, h1, fun m hm => h2 m hm⟩
 repeat (first|refine e_val rfl rfl rfl rfl (by first|exact pEv rfl|exact vL0 rfl (by assumption) rfl (by rfl)|fail) ?_|fail)
 refine e_callvL rfl rfl rfl rfl rfl rfl rfl (by decide) (fun _ => Nat.le_refl _) rfl (fun W hW => ?_) (fun π1 => ?_)
 ·refine (hr W (hB.later hW.below)).mono fun e W' h => ?_
  obtain ⟨π, h1, h2⟩ := mpQ_L ⟨_⟩ h
  exact ⟨π, h1, fun m hm => h2 m hm⟩
 obtain ⟨l0, hl0⟩ : ∃ l0, mpL E l π0.rs = l0 := ⟨_, rfl⟩
 obtain ⟨l1, hl1⟩ : ∃ l1, mpL E r π1.rs = l1 := ⟨_, rfl⟩
 have ok0 := mpL_ok E l π0.rs
 have ok1 := mpL_ok E r π1.rs
 rw [hl0] at ok0
 rw [hl1] at ok1
 obtain ⟨b0, hb0⟩ : ∃ b0, π0.b = b0 := ⟨_, rfl⟩
 obtain ⟨b1, hb1⟩ : ∃ b1, π1.b = b1 := ⟨_, rfl⟩
 unfold mpO mpV
 rw [hl0, hl1, hb0, hb1]
 clear hl0 hl1 hb0 hb1
 repeat (first|refine xTh ?_|refine cBl ?_|refine e_val rfl rfl rfl rfl (by first|exact pEv rfl|fail) ?_|refine e_new rfl rfl rfl rfl (by first|exact n_buildSlice rfl rfl rfl rfl (by rfl)|fail) (fun _ => ?_)|refine e_nil rfl ?_|fail)
 rename_i b2
 refine c_loop (ι := Nat × List (Int × Value)) (fun s => s.1 <= 2 /\ PyI E l r s.1 [] s.2) (fun s => [(8, .map (some bo)), (61, .slice (some ⟨b2, 0, none⟩) 2 2), (62, .int .i64 2), (63, .int .i64 s.1), (3, .pointer (some ⟨E.b7, 0, none⟩))])
  (fun s => [(b0, imO l0), (b1, imO l1), (b2, .cells ⟨[.map (some b0), .map (some b1)]⟩ 45 (0, 0)), (bo, imO s.2)]) (fun s => 2 - s.1) (0, []) ⟨by decide, pyI_0⟩ (by repeat (first|exact .nil|refine .cons rfl (by first|rfl|(congr 1; done)|exact congrArg _ (by omega)|(simp; done)) ?_)) (by repeat (first|exact .nil|refine .keep (by first|rfl|assumption) ?_|refine .drop ?_|exact MSub.refl _)) ?_
 rintro ⟨k, m3⟩ ⟨h1, h2⟩
 simp only at h1 h2 ⊢
 by_cases hk : k < 2
 rotate_left
 ·have hk2 : k = 2 := by omega
  subst hk2
  repeat (first|refine lVa rfl rfl (by first|exact pEv rfl|fail) ?_|refine lNi ?_|refine cRg ?_|refine cSq ?_|refine xTh ?_|refine c_false rfl ?_|refine c_ret ?_|refine c_exit ?_|refine xTe ?_|refine xBs ?_|fail)
  exact x_ret rfl rfl (by repeat constructor) rfl (fun W hW => ⟨bo, m3, rfl, hW.below, Nat.le_of_not_lt (hW.own (bo, _) (by repeat constructor)).1, (hW.own (bo, _) (by repeat constructor)).2, h2.fin⟩)
 obtain ⟨bx, lx, hbx, hok, hfit, hz, hcell⟩ : ∃ bx lx, ((bx = b0 /\ lx = l0) ∨ (bx = b1 /\ lx = l1)) /\ MpB E (kid l r k) lx /\ Fit E.S E.own (kid l r k) /\ (kid l r k).sz <= 1000 /\ [Value.map (some b0), .map (some b1)][k]? = some (.map (some bx)) := by
  match k, hk with
  | 0, _ => exact ⟨b0, l0, .inl ⟨rfl, rfl⟩, ok0, fl, zl, rfl⟩
  | 1, _ => exact ⟨b1, l1, .inr ⟨rfl, rfl⟩, ok1, fr, zr, rfl⟩
 have hkz := hfit
 have hhad : had E l k = fun s => if k = 0 then 0 else low E l s := rfl
 have hx0 : ∀ s, had E l k s <= 1004 := fun s => by
  unfold had
  split
  ·omega
  ·have := low_bd fl s; omega
 have hx1 : ∀ s, low E (kid l r k) s <= 1004 := fun s => by have := low_bd hfit s; omega
 repeat (first|refine lVa rfl rfl (by first|exact pEv rfl|exact vL0 rfl (by assumption) rfl (by rfl)|exact v_index rfl rfl rfl rfl (by omega) (by omega) (by with_reducible first|exact idx1 _|fail)|exact v_load_at rfl (by repeat constructor) rfl rfl (by first|assumption|fail)|fail) ?_|refine lNi ?_|refine cRg ?_|refine cSq ?_|refine xTh ?_|refine c_dec_t rfl (by first|omega|fail) ?_|refine cBl ?_|refine cSk ?_|fail)
 refine l_imRangeG rfl rfl rfl rfl (.far hcD hB.hc) (fun br => ?_)
 repeat (first|refine lNi ?_|refine xTh ?_|refine cBl ?_|fail)
 refine c_loop (ι := List Nat × List (Int × Value)) (fun s => s.1.Nodup /\ (∀ q ∈ s.1, q < E.S.length) /\ PyI E l r k s.1 s.2) (fun _ => [(8, .map (some bo)), (15, .map (some bx)), (61, .slice (some ⟨b2, 0, none⟩) 2 2), (62, .int .i64 2), (63, .int .i64 k), (68, .pointer (some ⟨br, 0, none⟩)), (3, .pointer (some ⟨E.b7, 0, none⟩))])
  (fun s => [(br, itO E.bc (zerosL E.S).length s.1), (b0, imO l0), (b1, imO l1), (b2, .cells ⟨[.map (some b0), .map (some b1)]⟩ 45 (0, 0)), (bo, imO s.2)]) (fun s => E.S.length - s.1.length) ([], m3) ⟨List.nodup_nil, fun q hq => (by cases hq), h2⟩ (by repeat (first|exact .nil|refine .cons rfl (by first|rfl|(congr 1; done)|exact congrArg _ (by omega)|(simp; done)) ?_)) (by repeat (first|exact .nil|refine .keep (by first|rfl|assumption) ?_|refine .drop ?_|exact MSub.refl _)) ?_
 clear h2
 rintro ⟨seen, m4⟩ ⟨h1, h2, h3⟩
 simp only at h1 h2 h3 ⊢
 repeat (first|refine cRg ?_|refine cSq ?_|fail)
 refine l_imNextG rfl rfl rfl (.far hcD hB.hc) (fun _ => (by repeat constructor)) ?_
 rintro ⟨o, ho⟩
 cases o with
 | none =>
  have hall : ∀ j, j < (zerosL E.S).length -> j ∈ seen := ho
  rw [zerosL_len] at hall
  have hnx := h3.next hall
  simp only [nxV, nxS]
  repeat (first|refine lVa rfl rfl (by first|exact v_add rfl rfl (by omega) (by omega)|exact pEv rfl|fail) ?_|refine lNi ?_|refine cRg ?_|refine cSq ?_|refine xTh ?_|refine c_false rfl ?_|refine c_exit ?_|refine xTe ?_|refine x_block ?_|refine xBs ?_|fail)
  exact x_back (k + 1, m4) ⟨by simp only; omega, hnx⟩ (by simp only; omega) (by repeat (first|exact .nil|refine .cons rfl (by first|rfl|(congr 1; done)|exact congrArg _ (by omega)|(simp; done)) ?_)) (by repeat (first|exact .nil|refine .keep (by first|rfl|assumption) ?_|refine .drop ?_|exact MSub.refl _))
 | some q =>
  obtain ⟨hq1, hq2⟩ : q < (zerosL E.S).length /\ ¬ q ∈ seen := ho
  rw [zerosL_len] at hq1
  obtain ⟨sq, hsq⟩ : ∃ sq, E.S[q]? = some sq := ⟨_, List.getElem?_eq_getElem hq1⟩
  have hI : (seen ++ [q]).Nodup /\ ∀ r ∈ seen ++ [q], r < E.S.length := ⟨List.nodup_append.2 ⟨h1, by simp, fun a ha b hb e => hq2 (by rw [List.mem_singleton.1 hb] at e; exact e ▸ ha)⟩, fun r hr => by
   rcases List.mem_append.1 hr with h | h
   ·exact h2 r h
   ·rw [List.mem_singleton.1 h]; exact hq1⟩
  have hmu : E.S.length - (seen ++ [q]).length < E.S.length - seen.length := by
   have : seen.length < E.S.length := by
    have hs1 : (List.range E.S.length).length = E.S.length := List.length_range
    have := hI.1.length_le_of_subset (l₂ := List.range E.S.length) (fun r hr => List.mem_range.2 (hI.2 r hr))
    rw [List.length_append, hs1, List.length_singleton] at this
    omega
   rw [List.length_append, List.length_singleton]; omega
  have hlk := h3.had hE.nd hsq hq2 hk
  have hst := h3.step hsq (pay_step (l := l) (r := r) hk)
  have hy0 := hx0 sq
  have hy1 := hx1 sq
  obtain ⟨x0, hx0e⟩ : ∃ x0, had E l k sq = x0 := ⟨_, rfl⟩
  obtain ⟨x1, hx1e⟩ : ∃ x1, low E (kid l r k) sq = x1 := ⟨_, rfl⟩
  rw [hx0e] at hlk hst hy0
  rw [hx1e] at hst hy1
  have hlxl := hok.len
  have hSl := hE.sl
  simp only [nxV, nxS]
  repeat (first|refine lVa rfl rfl (by first|exact pEv rfl|fail) ?_|refine lNi ?_|refine cRg ?_|refine cSq ?_|refine xTh ?_|refine c_true rfl ?_|refine cBl ?_|refine cSk ?_|fail)
  refine lVa rfl rfl (v_imEntryG rfl (.far hcD hB.hc) (by repeat constructor) (zerosL_get hsq)) ?_
  repeat (first|refine lVa rfl rfl (by first|exact pEv rfl|fail) ?_|refine lNi ?_|refine cRg ?_|refine cSq ?_|refine xTh ?_|fail)
  have hbm : ∀ {tl : List (Nat × Obj)} {p : Nat × Obj}, (bx, imO lx) ∈ p :: (b0, imO l0) :: (b1, imO l1) :: tl := fun {tl p} => by
   rcases hbx with ⟨rfl, rfl⟩ | ⟨rfl, rfl⟩
   ·exact .tail _ (.head _)
   ·exact .tail _ (.tail _ (.head _))
  have hbm2 : ∀ {tl : List (Nat × Obj)} {p p' : Nat × Obj}, (bx, imO lx) ∈ p :: p' :: (b0, imO l0) :: (b1, imO l1) :: tl := fun {tl p p'} => .tail _ hbm
  refine l_imRangeG rfl rfl rfl rfl (.own hbm) (fun br2 => ?_)
  repeat (first|refine lNi ?_|refine xTh ?_|refine cBl ?_|fail)
  refine c_loop (ι := List Nat × (Nat × Nat × List Value)) (fun s => s.1.Nodup /\ (∀ j ∈ s.1, j < lx.length) /\ gOK nE 1 (colL lx sq s.1) s.2.2.1 s.2.2.2)
   (fun s => [(8, .map (some bo)), (15, .map (some bx)), (16, .int .i64 sq), (17, gSl (colL lx sq s.1) s.2.1 s.2.2.1), (74, .pointer (some ⟨br2, 0, none⟩)), (61, .slice (some ⟨b2, 0, none⟩) 2 2), (62, .int .i64 2), (63, .int .i64 k), (68, .pointer (some ⟨br, 0, none⟩)), (3, .pointer (some ⟨E.b7, 0, none⟩))])
   (fun s => (br2, itO bx lx.length s.1) :: (br, itO E.bc (zerosL E.S).length (seen ++ [q])) :: (b0, imO l0) :: (b1, imO l1) :: (b2, .cells ⟨[.map (some b0), .map (some b1)]⟩ 45 (0, 0)) :: (bo, imO m4) :: gM nE 3 (colL lx sq s.1) s.2.1 s.2.2.2) (fun s => lx.length - s.1.length) ([], 0, 0, []) ⟨List.nodup_nil, fun q hq => (by cases hq), fun h => absurd rfl h⟩ (by repeat (first|exact .nil|refine .cons rfl (by first|rfl|(congr 1; done)|exact congrArg _ (by omega)|(simp; done)) ?_)) (by repeat (first|exact .nil|refine .keep (by first|rfl|assumption) ?_|refine .drop ?_|exact MSub.refl _)) ?_
  rintro ⟨seen2, bl, cap, rest⟩ ⟨g1, g2, g3⟩
  simp only at g1 g2 g3 ⊢
  repeat (first|refine cRg ?_|refine cSq ?_|fail)
  refine l_imNextG rfl rfl rfl (.own hbm2) (fun _ => (by repeat constructor)) ?_
  rintro ⟨o, ho⟩
  cases o with
  | none =>
   have hall : ∀ j, j < lx.length -> j ∈ seen2 := ho
   have hmn := colL_end hok (s := sq) hall
   have hne := colL_ne hok hfit (s := sq) hall
   have hbd := colL_bd hok hfit (s := sq) (seen := seen2)
   have hcl : (colL lx sq seen2).length <= 100 := by
    have h1 : (colL lx sq seen2).length <= seen2.length := colL_len
    have hs1 : (List.range lx.length).length = lx.length := List.length_range
    have := g1.length_le_of_subset (l₂ := List.range lx.length) (fun r hr => List.mem_range.2 (g2 r hr))
    omega
   rw [hx1e] at hmn
   have hlu : ∀ q, q ∈ colL lx sq seen2 -> q <= 1000000 := fun q hq => by have := hbd q hq; omega
   simp only [nxV, nxS]
   repeat (first|refine lVa rfl rfl (by first|exact pEv rfl|fail) ?_|refine lNi ?_|refine cSq ?_|refine xTh ?_|refine c_false rfl ?_|refine c_exit ?_|refine xTe ?_|refine xBs ?_|refine c_cut rfl (by decide +kernel) ?_|refine h_val rfl rfl (by first|exact pEv rfl|fail) ?_|fail)
   refine h_val rfl rfl (v_imGetG rfl rfl rfl rfl rfl (.own (by repeat constructor)) hlk) ?_
   repeat (first|refine h_val rfl rfl (by first|exact pEv rfl|fail) ?_|fail)
   refine h_call (v := .int .i64 (x1 : Nat)) rfl rfl rfl (fun W hW => ?_) ?_
   ·obtain ⟨A, c, e, hA⟩ := gSl_atN (l := colL lx sq seen2) (b := bl) (cap := cap) (r := rest) hW fun p hp => by
     refine .tail _ (.tail _ (.tail _ (.tail _ (.tail _ (.tail _ hp)))))
    rw [e, <- hmn]
    exact leastN_calls A c _ W hA hne (by omega) hlu
   unfold iv at hst ⊢
   repeat (first|refine h_do1 rfl (by decide +kernel) (by decide +kernel) rfl rfl (d_imPut (k := sq) (v := .int .i64 ((x0 + x1 : Nat) : Int)) rfl rfl rfl rfl rfl (by repeat constructor)) ?_|refine x_block ?_|refine h_val rfl rfl (by first|exact v_add rfl rfl (by omega) (by omega)|fail) ?_|fail)
   exact x_back (seen ++ [q], imPut m4 sq (.int .i64 ((x0 + x1 : Nat) : Int))) ⟨hI.1, hI.2, hst⟩ hmu (by repeat (first|exact .nil|refine .cons rfl (by first|rfl|(congr 1; done)|exact congrArg _ (by omega)|(simp; done)) ?_)) (by repeat (first|exact .nil|refine .keep (by first|rfl|assumption) ?_|refine .drop ?_|exact MSub.refl _))
  | some j =>
   obtain ⟨hj1, hj2⟩ : j < lx.length /\ ¬ j ∈ seen2 := ho
   obtain ⟨⟨pk, pv⟩, hpj⟩ : ∃ p, lx[j]? = some p := ⟨_, List.getElem?_eq_getElem hj1⟩
   obtain ⟨c, hpv, _, hcb⟩ := hok.at' hpj
   have hpv : pv = iv c := hpv
   subst hpv
   have hcz := bel_le hfit _ _ hcb
   have hsp := stp_le sq pk
   have hsn := colL_snoc (s := sq) (seen := seen2) hpj
   have e : cV (iv c) = c := by simp [iv, cV]
   simp only [e] at hsn
   have hcl : (colL lx sq seen2).length <= 100 := by
    have h1 : (colL lx sq seen2).length <= seen2.length := colL_len
    have hs1 : (List.range lx.length).length = lx.length := List.length_range
    have := g1.length_le_of_subset (l₂ := List.range lx.length) (fun r hr => List.mem_range.2 (g2 r hr))
    omega
   have hI2 : (seen2 ++ [j]).Nodup /\ ∀ r ∈ seen2 ++ [j], r < lx.length := ⟨List.nodup_append.2 ⟨g1, by simp, fun a ha b hb e => hj2 (by rw [List.mem_singleton.1 hb] at e; exact e ▸ ha)⟩, fun r hr => by
    rcases List.mem_append.1 hr with h | h
    ·exact g2 r h
    ·rw [List.mem_singleton.1 h]; exact hj1⟩
   have hmu2 : lx.length - (seen2 ++ [j]).length < lx.length - seen2.length := by
    have : seen2.length < lx.length := by
     have hs1 : (List.range lx.length).length = lx.length := List.length_range
     have := hI2.1.length_le_of_subset (l₂ := List.range lx.length) (fun r hr => List.mem_range.2 (hI2.2 r hr))
     rw [List.length_append, hs1, List.length_singleton] at this
     omega
    rw [List.length_append, List.length_singleton]; omega
   unfold iv at hpj
   simp only [nxV, nxS]
   repeat (first|refine lVa rfl rfl (by first|exact pEv rfl|fail) ?_|refine lNi ?_|refine cRg ?_|refine cSq ?_|refine xTh ?_|refine c_true rfl ?_|refine cBl ?_|refine cSk ?_|fail)
   refine lVa rfl rfl (v_imEntryG rfl (.own hbm2) (by repeat constructor) hpj) ?_
   repeat (first|refine lVa rfl rfl (by first|exact pEv rfl|fail) ?_|refine lNi ?_|refine cRg ?_|refine xTh ?_|fail)
   refine r_call rfl rfl rfl (fun W _ => step_calls sq pk W) ?_
   obtain ⟨st, hste⟩ : ∃ st, stp sq pk = st := ⟨_, rfl⟩
   rw [hste] at hsn hsp ⊢
   repeat (first|refine lVa rfl rfl (by first|exact v_add rfl rfl (by omega) (by omega)|fail) ?_|refine r_buildSlice rfl rfl rfl rfl rfl rfl (by rfl) (fun _ => ?_)|fail)
   refine r_appendZ (f := nE) (e := 3) (sz := 1) (xs := colL lx sq seen2) (ys := [c + st]) (m := 1) rfl rfl rfl rfl rfl rfl rfl (.inr ⟨_, 0, rfl, news_own (by repeat constructor)⟩) (List.perm_append_comm (l₁ := [_, _, _, _, _, _, _])) g3 (fun zs => by induction zs with
    | nil => rfl
    | cons z zs ih => rw [List.map_cons, List.flatten_cons, List.length_append, ih, List.length_cons]; show 1 + _ = _; omega) rfl rfl (by omega) (by unfold maxLen; omega) (fun b' c' r' hg' => ?_)
   rw [<- hsn] at hg' ⊢
   refine l_perm (List.perm_append_comm (l₂ := [_, _, _, _, _, _, _])) ?_
   repeat (first|refine lVa rfl rfl (by first|exact pEv rfl|fail) ?_|refine lNi ?_|refine x_block ?_|fail)
   exact x_back (seen2 ++ [j], b', c', r') ⟨hI2.1, hI2.2, hg'⟩ hmu2 (by repeat (first|exact .nil|refine .cons rfl (by first|rfl|(congr 1; done)|exact congrArg _ (by omega)|(simp; done)) ?_)) (by repeat (first|exact .nil|refine .keep (by first|rfl|assumption) ?_|refine .drop ?_|exact MSub.refl _))
end R41
end Go.Proofs

/- Near works: similar, walked. -/
import Derived.Test.YtajnkdgbpffinaaGreatRmB
import Derived.Test.YtajnkdgbpffinaaGreatClE
import Derived.Test.YtajnkdgbpffinaaGreatIdE
set_option maxRecDepth 100000
set_option maxHeartbeats 400000000
set_option linter.unusedSectionVars false
set_option linter.unusedVariables false
set_option linter.unusedSimpArgs false
namespace Go.Proofs
open Go.RowKit Go.Kin Go.Kin.Cl
namespace R41
theorem PairQ.ok {a b : List Int} {w w' : World} {e : Ending} (h0 : prR a b = 0) (h : PairQ a b w e w') : ∃ q : Option Addr × Nat × Nat, e = .returned (.tuple ⟨[.int .i64 (ac a b), .slice q.1 q.2.1 q.2.2, .int .i64 0]⟩) /\ Under w.heap.size w w' := by
 obtain ⟨h1, ⟨h2, -⟩ | ⟨-, -, h3⟩ | ⟨-, -, bp, cap, rest, h3, -⟩⟩ := h
 ·exact absurd h0 h2
 ·exact ⟨(none, 0, 0), h3, h1⟩
 ·exact ⟨(_, _, _), h3, h1⟩
def simB (a b : List Int) (limit : Int) : Bool := decide (1000 * (ac a b : Int) <= 2 * limit * ((a.length : Int) + (b.length : Int)))
theorem similar33_calls (a b : List Int) (A B : Option Addr) (ca cb : Nat) (limit : Int) (w : World) (hla : a.length <= 1000) (hlb : b.length <= 1000) (hba : ∀ x ∈ a, -9223372036854775808 <= x /\ x <= 9223372036854775807) (hbb : ∀ x ∈ b, -9223372036854775808 <= x /\ x <= 9223372036854775807)
  (hA : Kin.At w A 1 (a.map inE)) (hB : Kin.At w B 1 (b.map inE)) (h0 : prR a b = 0) (hac : 0 <= (ac a b : Int) /\ (ac a b : Int) <= 1000000) (hlim : 0 <= limit /\ limit <= 1000) :
  Calls Tryz.prog 33 ⟨[.slice A a.length ca, .slice B b.length cb, .int .i64 limit]⟩ w fun e w' => e = .returned (.bool (simB a b limit)) /\ Under w.heap.size w w' := by
 have hc := fun (W : World) (h : Under w.heap.size w W) => Pair_calls a b A B ca cb W (by omega) (by omega) hba hbb (hA.later h) (hB.later h)
 have hv : simB a b limit = decide (1000 * (ac a b : Int) <= 2 * limit * ((a.length : Int) + (b.length : Int))) := rfl
 refine fEn Tryz.func33 rfl Tryz.ntmps33 rfl rfl (sWn w) ?_
 repeat (first|refine lVa rfl rfl (by first|exact pEv rfl|fail) ?_|refine lNi ?_|refine cRg ?_|refine cSq ?_|refine xTh ?_|fail)
 refine l_call (ι := Option Addr × Nat × Nat) (v := fun q => .tuple ⟨[.int .i64 (ac a b), .slice q.1 q.2.1 q.2.2, .int .i64 0]⟩) (mem' := fun _ => []) rfl rfl rfl (fun W hW => (hc W hW.below).mono fun e W' h => ?_) ?_
 ·obtain ⟨q, h1, h2⟩ := h.ok h0
  exact ⟨q, h1, hW.later h2⟩
 rintro ⟨q1, q2, q3⟩
 clear hc
 obtain ⟨z, hz⟩ : ∃ z : Int, (ac a b : Int) = z := ⟨_, rfl⟩
 rw [hz] at hac hv ⊢
 obtain ⟨na, hna⟩ : ∃ n, a.length = n := ⟨_, rfl⟩
 obtain ⟨nb, hnb⟩ : ∃ n, b.length = n := ⟨_, rfl⟩
 rw [hna] at hla hv ⊢
 rw [hnb] at hlb hv ⊢
 have hp1 : 0 <= 2 * limit * ((na : Int) + (nb : Int)) := Int.mul_nonneg (by omega) (by omega)
 have hp2 : 2 * limit * ((na : Int) + (nb : Int)) <= 2000 * 2000 := Int.mul_le_mul (by omega) (by omega) (by omega) (by omega)
 repeat (first|refine lVa rfl rfl (by first|exact v_add rfl rfl (by omega) (by omega)|exact v_mul rfl rfl (by omega) (by omega)|exact pEv rfl|fail) ?_|refine lNi ?_|refine cRg ?_|refine cSq ?_|refine xTh ?_|refine c_ret ?_|fail)
 exact x_ret rfl rfl (by repeat constructor) rfl (fun W hW => ⟨by rw [hv], hW.below⟩)
end R41
end Go.Proofs

set_option maxRecDepth 100000
set_option maxHeartbeats 400000000
namespace Go.Proofs
open Go.RowKit Go.Kin Go.Kin.Cl
namespace R41
theorem near37_calls (d : Int) (w : World) : Calls Tryz.prog 37 ⟨[.int .i64 d]⟩ w fun e w' => e = .returned (.bool (decide (0 <= d))) /\ Under w.heap.size w w' := by
 refine fEn Tryz.func37 rfl Tryz.ntmps37 rfl rfl (sWn w) ?_
 repeat (first|refine lVa rfl rfl (by first|exact pEv rfl|fail) ?_|refine lNi ?_|refine cRg ?_|refine cSq ?_|refine xTh ?_|refine c_ret ?_|fail)
 exact x_ret rfl rfl (by repeat constructor) rfl (fun W hW => ⟨rfl, hW.below⟩)
/-- the index of the first that is not negative, or -1 -/
def fstI : List Int -> Int
 | [] => -1
 | d :: l => if 0 <= d then 0 else if fstI l = -1 then -1 else fstI l + 1
theorem fstI_take : ∀ {l : List Int} {k : Nat} {d : Int}, (∀ x ∈ l.take k, ¬ 0 <= x) -> l[k]? = some d -> 0 <= d -> fstI l = k
 | x :: l, 0, d, _, h, hd => by
  cases h
  show (if 0 <= x then (0 : Int) else _) = _
  rw [if_pos hd]; rfl
 | x :: l, k + 1, d, hn, h, hd => by
  have h1 := fstI_take (l := l) (k := k) (fun y hy => hn y (by rw [List.take_succ_cons]; exact List.mem_cons_of_mem _ hy)) h hd
  have h2 : ¬ 0 <= x := hn x (by rw [List.take_succ_cons]; exact List.mem_cons_self)
  show (if 0 <= x then (0 : Int) else if fstI l = -1 then -1 else fstI l + 1) = _
  rw [if_neg h2, h1, if_neg (by omega)]; omega
theorem fstI_none : ∀ {l : List Int}, (∀ x ∈ l, ¬ 0 <= x) -> fstI l = -1
 | [], _ => rfl
 | x :: l, hn => by
  have h1 := fstI_none (l := l) fun y hy => hn y (List.mem_cons_of_mem _ hy)
  show (if 0 <= x then (0 : Int) else if fstI l = -1 then -1 else fstI l + 1) = _
  rw [if_neg (hn x List.mem_cons_self), if_pos h1]
theorem first35_calls (A : Option Addr) (ca : Nat) (l : List Int) (w : World) (hA : Kin.At w A 1 (l.map inE)) (hl : l.length <= 100000) :
  Calls Tryz.prog 35 ⟨[.slice A l.length ca, .func (.func 37) ⟨[]⟩ ⟨[]⟩]⟩ w fun e w' => e = .returned (.int .i64 (fstI l)) /\ Under w.heap.size w w' := by
 obtain ⟨n, hn⟩ : ∃ n, l.length = n := ⟨_, rfl⟩
 rw [hn] at hl ⊢
 refine fEn Tryz.func35 rfl Tryz.ntmps35 rfl rfl (sWn w) ?_
 repeat ((fail_if_success refine c_probe (id := 2) ?_); (fail_if_success refine c_probe1 (id := 2) ?_); first|refine lVa rfl rfl (by first|exact pEv rfl|fail) ?_|refine lNi ?_|refine cRg ?_|refine cSq ?_|refine xTh ?_|refine cBl ?_|fail)
 refine c_loop (ι := Nat) (fun k => k <= n /\ (Unit -> ∀ x ∈ l.take k, ¬ 0 <= x)) (fun k => [(1, .func (.func 37) ⟨[]⟩ ⟨[]⟩), (7, .slice A n ca), (8, .int .i64 n), (9, .int .i64 k)]) (fun _ => []) (fun k => n - k) 0 ⟨Nat.zero_le _, fun _ x h => by simp at h⟩ (by repeat (first|exact .nil|refine .cons rfl (by first|rfl|(congr 1; done)|exact congrArg _ (by omega)|(simp; done)) ?_)) (by repeat (first|exact .nil|refine .keep (by first|rfl|assumption) ?_|refine .drop ?_|exact MSub.refl _)) ?_
 rintro k ⟨hk, hI⟩
 by_cases hlt : k < n
 rotate_left
 ·have hkn : k = n := by omega
  have hv : fstI l = -1 := fstI_none (by have := hI (); rwa [hkn, <- hn, List.take_length] at this)
  clear hI
  repeat ((fail_if_success refine c_probe (id := 8) ?_); (fail_if_success refine c_probe1 (id := 8) ?_); first|refine lVa rfl rfl (by first|exact pEv rfl|fail) ?_|refine lNi ?_|refine cRg ?_|refine cSq ?_|refine xTh ?_|refine c_dec_f rfl (by first|omega|fail) ?_|refine c_ret ?_|refine c_exit ?_|refine xTe ?_|refine xBs ?_|fail)
  exact x_ret rfl rfl (by repeat constructor) rfl (fun W hW => ⟨by rw [hv], hW.below⟩)
 obtain ⟨d, hd⟩ : ∃ s, l[k]? = some s := ⟨_, List.getElem?_eq_getElem (by omega)⟩
 obtain ⟨b, o, hAb, hc⟩ := hA k (inE d) (by rw [List.getElem?_map, hd]; rfl)
 have x1 := ext_of hc
 rw [Nat.mul_one] at x1
 have hcl := fun W => near37_calls d W
 rw [hAb]
 by_cases h0 : 0 <= d
 ·have hv := fstI_take (hI ()) hd h0
  rw [decide_eq_true h0] at hcl
  clear hI
  repeat ((fail_if_success refine c_probe (id := 4) ?_); (fail_if_success refine c_probe1 (id := 4) ?_); first|refine lVa rfl rfl (by first|exact pEv rfl|exact vL0 rfl (by assumption) rfl (by rfl)|exact v_index rfl rfl rfl rfl (by omega) (by omega) (by with_reducible first|exact idx2 _ _|fail)|fail) ?_|refine lNi ?_|refine cRg ?_|refine cSq ?_|refine xTh ?_|refine c_dec_t rfl (by first|omega|fail) ?_|refine cBl ?_|refine cSk ?_|fail)
  refine cSq ?_
  repeat (first|refine lVa rfl rfl (by first|exact pEv rfl|fail) ?_|refine cRg ?_|fail)
  refine r_callv rfl rfl rfl rfl rfl (fun W hW => hcl W) ?_
  repeat ((fail_if_success refine c_probe (id := 7) ?_); (fail_if_success refine c_probe1 (id := 7) ?_); first|refine lVa rfl rfl (by first|exact pEv rfl|fail) ?_|refine lNi ?_|refine cRg ?_|refine cSq ?_|refine xTh ?_|refine c_true rfl ?_|refine c_ret ?_|refine xTr ?_|refine xBr ?_|fail)
  exact x_ret rfl rfl (by repeat constructor) rfl (fun W hW => ⟨by rw [hv], hW.below⟩)
 have hI' : Unit -> ∀ x ∈ l.take (k + 1), ¬ 0 <= x := fun _ x hx => by
  rw [List.take_add_one, hd] at hx
  rcases List.mem_append.1 hx with hx | hx
  ·exact hI () x hx
  ·rw [List.mem_singleton.1 hx]; exact h0
 rw [decide_eq_false h0] at hcl
 clear hI
 repeat ((fail_if_success refine c_probe (id := 4) ?_); (fail_if_success refine c_probe1 (id := 4) ?_); first|refine lVa rfl rfl (by first|exact pEv rfl|exact vL0 rfl (by assumption) rfl (by rfl)|exact v_index rfl rfl rfl rfl (by omega) (by omega) (by with_reducible first|exact idx2 _ _|fail)|fail) ?_|refine lNi ?_|refine cRg ?_|refine cSq ?_|refine xTh ?_|refine c_dec_t rfl (by first|omega|fail) ?_|refine cBl ?_|refine cSk ?_|fail)
 refine cSq ?_
 repeat (first|refine lVa rfl rfl (by first|exact pEv rfl|fail) ?_|refine cRg ?_|fail)
 refine r_callv rfl rfl rfl rfl rfl (fun W hW => hcl W) ?_
 repeat ((fail_if_success refine c_probe (id := 7) ?_); (fail_if_success refine c_probe1 (id := 7) ?_); first|refine lVa rfl rfl (by first|exact v_add rfl rfl (by omega) (by omega)|exact pEv rfl|fail) ?_|refine lNi ?_|refine cRg ?_|refine xTh ?_|refine c_false rfl ?_|refine cSk ?_|refine x_block ?_|fail)
 exact x_back (k + 1) ⟨hlt, hI'⟩ (by omega) (by repeat (first|exact .nil|refine .cons rfl (by first|rfl|(congr 1; done)|exact congrArg _ (by omega)|(simp; done)) ?_)) (by repeat (first|exact .nil|refine .keep (by first|rfl|assumption) ?_|refine .drop ?_|exact MSub.refl _))
end R41
end Go.Proofs

set_option maxRecDepth 100000
set_option maxHeartbeats 400000000
namespace Go.Proofs
open Go.RowKit Go.Kin Go.Kin.Cl
namespace R41
/-- an edition: where its signs lie -/
structure Ed where
 A : Option Addr
 c : Nat
 l : List Sg
def Ed.v (x : Ed) : List Value := [.slice x.A x.l.length x.c]
structure Ed.OK (w : World) (x : Ed) : Prop where
 at' : Kin.At w x.A 14 (x.l.map sgE)
 chk : chkS x.l = 0
 wf : ∀ s ∈ x.l, s.wf
 form : ∀ s ∈ x.l, formB s = true
 id : idP x.l
 len : x.l.length <= 64
theorem Ed.OK.later {w W : World} {x : Ed} (h : x.OK w) (hb : Under w.heap.size w W) : x.OK W := ⟨h.at'.later hb, h.chk, h.wf, h.form, h.id, h.len⟩
theorem chk_form {l : List Sg} (hl : l.length <= 64) (h : chkS l = 0) : (∀ s ∈ l, formB s = true) /\ l.Pairwise (fun a b => a.id < b.id) := by
 unfold chkS at h
 rw [if_neg (by omega)] at h
 by_cases h1 : allS none l = true
 ·exact ⟨(allS_get l none h1).1, (allS_get l none h1).2.1⟩
 ·rw [if_neg h1] at h; cases h
/-- an essence in a block of its own -/
structure EsR where
 l : List Int
 b : Nat
 c : Nat
 r : List Value
def EsR.v (x : EsR) : List Value := [gSl x.l x.b x.c]
def EsR.m (x : EsR) : List (Nat × Obj) := gM inE 3 x.l x.b x.r
def EsR.At (w : World) (x : EsR) : Prop := ∃ A c, gSl x.l x.b x.c = .slice A x.l.length c /\ Kin.At w A 1 (x.l.map inE)
theorem esV_rows (l : List EsR) : ((l.map EsR.v).flatten).length = l.length * 1 := by
 induction l with
 | nil => rfl
 | cons x l ih => rw [List.map_cons, List.flatten_cons, List.length_append, ih]; show 1 + l.length * 1 = (l.length + 1) * 1; omega
theorem inE_at {w0 W : World} {D : Nat -> Prop} {J : (Nat -> Prop) -> World -> Prop} {mem : List (Nat × Obj)} {l : List Int} {b cap : Nat} {rest : List Value} (hW : SatW w0 D J mem W) (h : ∀ p ∈ gM inE 3 l b rest, p ∈ mem) : ∃ A c, gSl l b cap = .slice A l.length c /\ Kin.At W A 1 (l.map inE) := by
 cases l with
 | nil => exact ⟨none, 0, rfl, fun i cs hi => by simp at hi⟩
 | cons x l => exact ⟨_, _, rfl, at_own hW (h _ List.mem_cons_self) (fun x => rfl)⟩
theorem mid_perm {α : Type} {G E F : List α} {x : α} : (G ++ (x :: E ++ F)).Perm (x :: (G ++ (F ++ E))) := by
 rw [List.cons_append]
 exact List.perm_middle.trans (.cons _ (.append_left _ List.perm_append_comm))
structure EssT where
 k : Nat
 rows : List EsR
 b : Nat
 c : Nat
 r : List Value
/-- what the essences are, and where -/
structure EssR (R : List Ed) (X : Option Addr) (rows : List EsR) (w : World) : Prop where
 top : Kin.At w X 1 (rows.map EsR.v)
 row : ∀ e ∈ rows, e.At w
 ls : rows.map (·.l) = R.map fun x => essC x.l
theorem essences32_calls (limit : Int) (A : Option Addr) (cap : Nat) (R : List Ed) (w : World) (hA : Kin.At w A 1 (R.map Ed.v)) (hl : R.length <= 1000) (hR : ∀ x ∈ R, x.OK w) :
  Calls Tryz.prog 32 ⟨[.int .i64 limit, .slice A R.length cap]⟩ w fun e w' => ∃ i : Option Addr × Nat × List EsR, e = .returned (if 0 <= limit /\ limit <= 1000 then .tuple ⟨[.slice i.1 R.length i.2.1, .int .i64 0]⟩ else .tuple ⟨[.slice none 0 0, .int .i64 450]⟩) /\ Under w.heap.size w w' /\ EssR R i.1 i.2.2 w' := by
 obtain ⟨n, hn⟩ : ∃ n, R.length = n := ⟨_, rfl⟩
 rw [hn] at hl ⊢
 refine fEn Tryz.func32 rfl Tryz.ntmps32 rfl rfl (sWn w) ?_
 repeat ((fail_if_success refine c_probe (id := 2) ?_); (fail_if_success refine c_probe1 (id := 2) ?_); first|refine lVa rfl rfl (by first|exact pEv rfl|fail) ?_|refine lNi ?_|refine cRg ?_|refine cSq ?_|refine xTh ?_|refine cBl ?_|fail)
 refine c_loop (ι := EssT) (fun s => s.k <= n /\ s.rows.map (·.l) = (R.take s.k).map (fun x => essC x.l) /\ gOK EsR.v 1 s.rows s.c s.r) (fun s => [(0, .int .i64 limit), (4, gSl s.rows s.b s.c), (5, .int .i64 0), (10, .slice A n cap), (11, .int .i64 n), (12, .int .i64 s.k)]) (fun s => gM EsR.v 28 s.rows s.b s.r ++ s.rows.flatMap EsR.m) (fun s => n - s.k) ⟨0, [], 0, 0, []⟩
  ⟨Nat.zero_le _, rfl, fun h => absurd rfl h⟩ (by repeat (first|exact .nil|refine .cons rfl (by first|rfl|(congr 1; done)|exact congrArg _ (by omega)|(simp; done)) ?_)) (by repeat (first|exact .nil|refine .keep (by first|rfl|assumption) ?_|refine .drop ?_|exact MSub.refl _)) ?_
 rintro ⟨k, rows, b, c, r⟩ ⟨hkn, hls, hg⟩
 simp only at hkn hls hg ⊢
 by_cases hlt : k < n
 ·obtain ⟨x, hx⟩ : ∃ x, R[k]? = some x := ⟨_, List.getElem?_eq_getElem (by omega)⟩
  obtain ⟨bb, o, rfl, hcS⟩ := hA k x.v (by rw [List.getElem?_map, hx]; rfl)
  have x1 := ext_of hcS
  rw [Nat.mul_one] at x1
  have hxm := List.mem_of_getElem? hx
  have htk : (R.take (k + 1)).map (fun x => essC x.l) = (R.take k).map (fun x => essC x.l) ++ [essC x.l] := by
   obtain ⟨h1, h2⟩ := List.getElem?_eq_some_iff.1 hx
   rw [List.take_succ_eq_append_getElem h1, h2, List.map_append]; rfl
  have hrl : rows.length <= 1000 := by
   have h1 := congrArg List.length hls
   rw [List.length_map, List.length_map, List.length_take] at h1
   omega
  have hce := fun W (hB : Under w.heap.size w W) => Essence6_calls x.A x.c x.l W ((hR x hxm).later hB).at' (hR x hxm).wf (hR x hxm).len (hR x hxm).chk (hR x hxm).form (hR x hxm).id
  have hg' := fun (_ : Unit) => hg
  clear hg
  generalize essC x.l = EC at htk hce
  obtain ⟨FM, hFM⟩ : ∃ FM, rows.flatMap EsR.m = FM := ⟨_, rfl⟩
  rw [hFM]
  repeat ((fail_if_success refine c_probe (id := 4) ?_); (fail_if_success refine c_probe1 (id := 4) ?_); first|refine lVa rfl rfl (by first|exact pEv rfl|exact vL0 rfl (by assumption) rfl (by rfl)|exact v_index rfl rfl rfl rfl (by omega) (by omega) (by with_reducible first|exact idx2 _ _|fail)|fail) ?_|refine lNi ?_|refine cRg ?_|refine cSq ?_|refine xTh ?_|refine c_dec_t rfl (by first|omega|fail) ?_|refine cBl ?_|refine cSk ?_|fail)
  refine cSq ?_
  repeat (first|refine lVa rfl rfl (by first|exact pEv rfl|fail) ?_|refine cRg ?_|fail)
  refine r_callF (pre := []) rfl rfl rfl (List.Perm.refl _) (fun W hW _ _ => hce W hW.below) ?_
  rintro ⟨b1, c1, r1⟩
  simp only
  obtain ⟨AE, cE, hE⟩ := gSl_len (l := EC) (b := b1) (cap := c1)
  rw [hE]
  have hv1 : (([⟨EC, b1, c1, r1⟩] : List EsR).map EsR.v).flatten = [.slice AE EC.length cE] := by
   show [gSl EC b1 c1] = _
   rw [hE]
  have hm1 : EsR.m ⟨EC, b1, c1, r1⟩ = gM inE 3 EC b1 r1 := rfl
  generalize gM inE 3 EC b1 r1 = EM at hm1 ⊢
  have hf2 : (rows ++ [(⟨EC, b1, c1, r1⟩ : EsR)]).flatMap EsR.m = FM ++ EM := by rw [List.flatMap_append, hFM, List.flatMap_cons, List.flatMap_nil, List.append_nil, hm1]
  have hl2 : (rows ++ [(⟨EC, b1, c1, r1⟩ : EsR)]).map (·.l) = (R.take (k + 1)).map (fun x => essC x.l) := by rw [htk, List.map_append, hls]; rfl
  repeat ((fail_if_success refine c_probe (id := 7) ?_); (fail_if_success refine c_probe1 (id := 7) ?_); first|refine lVa rfl rfl (by first|exact pEv rfl|fail) ?_|refine lNi ?_|refine cRg ?_|refine cSq ?_|refine xTh ?_|refine r_buildSlice rfl rfl rfl rfl rfl rfl (by rfl) (fun _ => ?_)|refine c_false rfl ?_|refine cSk ?_|fail)
  skip
  refine r_appendZ (f := EsR.v) (e := 28) (sz := 1) (xs := rows) (ys := [⟨EC, b1, c1, r1⟩]) (m := 1) rfl rfl rfl rfl rfl rfl rfl (by rw [hv1]; exact .inr ⟨_, 0, rfl, news_own (by repeat constructor)⟩) (List.perm_append_comm_assoc (_ :: EM) (gM EsR.v 28 rows b r) FM) (hg' ()) esV_rows (by rw [hv1]; rfl) rfl (by omega) (by unfold maxLen; omega) (fun b8 c8 r8 hg8 => ?_)
  have hg8' := fun (_ : Unit) => hg8
  clear hg8
  refine l_perm mid_perm ?_
  repeat ((fail_if_success refine c_probe (id := 8) ?_); (fail_if_success refine c_probe1 (id := 8) ?_); first|refine lVa rfl rfl (by first|exact v_add rfl rfl (by omega) (by omega)|exact pEv rfl|fail) ?_|refine lNi ?_|refine cRg ?_|refine xTh ?_|refine x_block ?_|fail)
  refine x_back ⟨k + 1, rows ++ [⟨EC, b1, c1, r1⟩], b8, c8, r8⟩ ⟨hlt, hl2, hg8' ()⟩ (by simp only; omega) (by repeat (first|exact .nil|refine .cons rfl (by first|rfl|(congr 1; done)|exact congrArg _ (by omega)|(simp; done)) ?_)) ?_
  simp only
  rw [hf2]
  exact .drop (.refl _)
 rw [List.take_of_length_le (by omega)] at hls
 have hrl : rows.length = n := by
  have h1 := congrArg List.length hls
  rw [List.length_map, List.length_map] at h1
  omega
 obtain ⟨FM, hFM⟩ : ∃ FM, rows.flatMap EsR.m = FM := ⟨_, rfl⟩
 rw [hFM]
 have hfin : ∀ W : World, SatW w (base w) noJ (gM EsR.v 28 rows b r ++ FM) W -> ∃ A' c', gSl rows b c = .slice A' n c' /\ EssR R A' rows W := fun W hW => by
  have hrow : ∀ e ∈ rows, e.At W := fun e he => by
   obtain ⟨A', c', h1, h2⟩ := inE_at (cap := e.c) hW (l := e.l) (b := e.b) (rest := e.r) (fun p hp => List.mem_append_right _ (by rw [<- hFM]; exact List.mem_flatMap.2 ⟨e, he, hp⟩))
   exact ⟨A', c', h1, h2⟩
  cases hr : rows with
  | nil => exact ⟨none, 0, by rw [<- hrl, hr]; rfl, fun i cs hi => by simp at hi, by rw [<- hr]; exact hrow, by rw [<- hr]; exact hls⟩
  | cons x l =>
   refine ⟨some ⟨b, 0, none⟩, c, by rw [<- hrl, hr]; rfl, ?_, by rw [<- hr]; exact hrow, by rw [<- hr]; exact hls⟩
   exact at_own hW (List.mem_append_left _ (by rw [hr]; exact List.mem_cons_self)) (fun x => rfl)
 clear hg hR hA
 by_cases h0 : 0 <= limit
 ·by_cases h1 : limit <= 1000
  ·repeat ((fail_if_success refine c_probe (id := 11) ?_); (fail_if_success refine c_probe1 (id := 11) ?_); first|refine lVa rfl rfl (by first|exact pEv rfl|fail) ?_|refine lNi ?_|refine cRg ?_|refine cSq ?_|refine xTh ?_|refine c_dec_f rfl (by first|omega|fail) ?_|refine cSk ?_|refine c_exit ?_|refine xTe ?_|refine xBs ?_|refine l_dec_f rfl rfl rfl rfl rfl (by first|omega|fail) ?_|fail)
   repeat (first|refine lVa rfl rfl (by first|exact pEv rfl|fail) ?_|refine lNi ?_|refine cRg ?_|refine cSq ?_|refine xTh ?_|refine c_ret ?_|fail)
   exact x_ret rfl rfl (by repeat constructor) rfl (fun W hW => by
    obtain ⟨A', c', g1, g2⟩ := hfin W hW
    exact ⟨(A', c', rows), by rw [if_pos ⟨h0, h1⟩, g1], hW.below, g2⟩)
  ·repeat ((fail_if_success refine c_probe (id := 11) ?_); (fail_if_success refine c_probe1 (id := 11) ?_); first|refine lVa rfl rfl (by first|exact pEv rfl|fail) ?_|refine lNi ?_|refine cRg ?_|refine cSq ?_|refine xTh ?_|refine c_dec_t rfl (by first|omega|fail) ?_|refine c_dec_f rfl (by first|omega|fail) ?_|refine c_ret ?_|refine c_exit ?_|refine xTr ?_|refine xTe ?_|refine xBs ?_|refine l_dec_f rfl rfl rfl rfl rfl (by first|omega|fail) ?_|fail)
   exact x_ret rfl rfl (by repeat constructor) rfl (fun W hW => by
    obtain ⟨A', c', g1, g2⟩ := hfin W hW
    exact ⟨(A', c', rows), by rw [if_neg fun h => h1 h.2], hW.below, g2⟩)
 ·repeat ((fail_if_success refine c_probe (id := 11) ?_); (fail_if_success refine c_probe1 (id := 11) ?_); first|refine lVa rfl rfl (by first|exact pEv rfl|fail) ?_|refine lNi ?_|refine cRg ?_|refine cSq ?_|refine xTh ?_|refine l_skip rfl rfl ?_|refine c_true rfl ?_|refine c_dec_f rfl (by first|omega|fail) ?_|refine c_ret ?_|refine c_exit ?_|refine xTr ?_|refine xTe ?_|refine xBs ?_|refine l_dec_t rfl rfl rfl rfl rfl (by first|omega|fail) ?_|fail)
  exact x_ret rfl rfl (by repeat constructor) rfl (fun W hW => by
   obtain ⟨A', c', g1, g2⟩ := hfin W hW
   exact ⟨(A', c', rows), by rw [if_neg fun h => h0 h.1], hW.below, g2⟩)
end R41
end Go.Proofs

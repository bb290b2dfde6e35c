/- Links between trees: what fixed times must keep, whatever the durations are. Plain Lean. -/
import Derived.Test.YtcodoembnjemkaaSgStr
import Derived.Test.YtcodoembnjemkaaStRef
import Derived.Test.YtcodoembnjemkaaTy
import Derived.Test.YtcodoembnjemkaaEng26
import Derived.Test.YtcodoembnjemkaaStNet
import Derived.Test.YtcodoembnjemkaaStMts
set_option linter.unusedSectionVars false
set_option linter.unusedVariables false
set_option linter.unusedSimpArgs false
namespace Go.Kin.Ct
open Go.Kin.St
/-- a link, from root to root -/
def redL (C : List Lk) (n : Nat) (x : Lk) : Lk := ⟨root C n x.fr, root C n x.to, x.lo + gap C n x.to x.fr, x.hi - gap C n x.fr x.to⟩
def net (C : List Lk) (n : Nat) (L : List Lk) : List Lk := L.map (redL C n)
def redE (C : List Lk) (n : Nat) (L : List Lk) : List Ed := edges (net C n L)
theorem net_len {C : List Lk} {n : Nat} {L : List Lk} : (net C n L).length = L.length := List.length_map ..
theorem redE_len {C : List Lk} {n : Nat} {L : List Lk} : (redE C n L).length = 2 * L.length := by unfold redE; rw [edges_len, net_len]
/-- one side of a link -/
def sideP (u : Bool) (x : Lk) : Int := if u = true then x.to else x.fr
def sideQ (u : Bool) (x : Lk) : Int := if u = true then x.fr else x.to
def sideW (u : Bool) (x : Lk) : Int := if u = true then - x.lo else x.hi
def redS (C : List Lk) (n : Nat) (u : Bool) (x : Lk) : Ed := ⟨(root C n (sideP u x)).toNat, (root C n (sideQ u x)).toNat, sideW u x - gap C n (sideP u x) (sideQ u x)⟩
theorem redS_up (C : List Lk) (n : Nat) (x : Lk) : redS C n false x = up (redL C n x) := rfl
theorem redS_dn (C : List Lk) (n : Nat) (x : Lk) : redS C n true x = dn (redL C n x) := by
 unfold redS redL dn sideP sideQ sideW
 simp only [if_pos]
 congr 1
 omega
theorem redE_mem {C : List Lk} {n : Nat} {L : List Lk} {e : Ed} : e ∈ redE C n L ↔ ∃ x ∈ L, ∃ u, e = redS C n u x := by
 unfold redE
 rw [edges_mem]
 constructor
 ·rintro ⟨y, hy, h⟩
  obtain ⟨x, hx, rfl⟩ := List.mem_map.1 hy
  rcases h with h | h
  ·exact ⟨x, hx, false, h.trans (redS_up C n x).symm⟩
  ·exact ⟨x, hx, true, h.trans (redS_dn C n x).symm⟩
 ·rintro ⟨x, hx, u, rfl⟩
  refine ⟨_, List.mem_map.2 ⟨x, hx, rfl⟩, ?_⟩
  cases u
  ·exact .inl (redS_up C n x)
  ·exact .inr (redS_dn C n x)
theorem stepOf_net {C : List Lk} {n : Nat} {L : List Lk} {u : Us} {x : Lk} (h0 : 0 <= u.link) (hx : L[u.link.toNat]? = some x) : stepOf (net C n L) u = some (redS C n u.lower x) := by
 unfold stepOf net
 rw [if_pos h0, List.getElem?_map, hx]
 simp only [Option.map_some]
 cases u.lower
 ·rfl
 ·rw [redS_dn]; rfl
section
variable {n : Nat} {C L : List Lk} (hT : Tree n C) (hL : Fine n L)
include hL in
theorem side_in {x : Lk} (hx : x ∈ L) (u : Bool) : ∃ p q : Nat, p < n /\ q < n /\ sideP u x = p /\ sideQ u x = q := by
 have h := hL x hx
 unfold Lk.Fine at h
 cases u
 ·exact ⟨x.fr.toNat, x.to.toNat, by omega, by omega, by unfold sideP; simp only [Bool.false_eq_true, if_false]; omega, by unfold sideQ; simp only [Bool.false_eq_true, if_false]; omega⟩
 ·exact ⟨x.to.toNat, x.fr.toNat, by omega, by omega, by unfold sideP; simp only [if_pos]; omega, by unfold sideQ; simp only [if_pos]; omega⟩
include hT hL in
theorem redE_in : In n (redE C n L) := fun e he => by
 obtain ⟨x, hx, u, rfl⟩ := redE_mem.1 he
 obtain ⟨p, q, hp, hq, e1, e2⟩ := side_in hL hx u
 obtain ⟨r, h1, h2, _⟩ := hT.root_in hp
 obtain ⟨s, h3, h4, _⟩ := hT.root_in hq
 unfold redS
 rw [e1, e2, h2, h4]
 simp only [Int.toNat_natCast]
 exact ⟨h1, h3⟩
include hT hL in
theorem redE_wt {e : Ed} (he : e ∈ redE C n L) : -(1099511627776 * ((C.length : Int) + 1)) <= e.w /\ e.w <= 1099511627776 * ((C.length : Int) + 1) := by
 obtain ⟨x, hx, u, rfl⟩ := redE_mem.1 he
 have h1 := gap_bd hT (sideP u x) (sideQ u x)
 have h2 := hL x hx
 unfold Lk.Fine at h2
 have h3 : -1099511627776 <= sideW u x /\ sideW u x <= 1099511627776 := by
  unfold sideW
  cases u
  ·simp only [Bool.false_eq_true, if_false]; omega
  ·simp only [if_pos]; omega
 unfold redS
 simp only
 omega
/-- a side of a link is kept -/
def keptS (z : Int -> Int) (u : Bool) (x : Lk) : Prop := z (sideQ u x) - z (sideP u x) <= sideW u x
theorem kept_link {z : Int -> Int} {x : Lk} (h : ∀ u, keptS z u x) : x.lo <= z x.to - z x.fr /\ z x.to - z x.fr <= x.hi := by
 have h1 := h false
 have h2 := h true
 unfold keptS sideP sideQ sideW at h1 h2
 simp only [Bool.false_eq_true, if_false, if_true] at h1 h2
 omega
include hT hL in
/-- times that keep the steps from root to root keep all links, whatever the durations are -/
theorem sol_keeps {t d : Nat -> Int} (hs : Sol (redE C n L) t) (hd : Durs C d) {x : Lk} (hx : x ∈ L) (u : Bool) : keptS (at_ C n t d) u x := by
 have h := hs _ (redE_mem.2 ⟨x, hx, u, rfl⟩)
 obtain ⟨p, q, hp, hq, e1, e2⟩ := side_in hL hx u
 have h2 := diff_le hT (t := t) hd hp hq
 unfold keptS
 unfold redS at h
 simp only at h
 rw [e1, e2] at h ⊢
 omega
include hT hL in
/-- and a step that is not kept is a link that some durations break -/
theorem broken {t : Nat -> Int} {x : Lk} (hx : x ∈ L) {u : Bool} (h : ¬ t (redS C n u x).b - t (redS C n u x).a <= (redS C n u x).w) : sideW u x < at_ C n t (worst C n (sideP u x) (sideQ u x)) (sideQ u x) - at_ C n t (worst C n (sideP u x) (sideQ u x)) (sideP u x) := by
 obtain ⟨p, q, hp, hq, e1, e2⟩ := side_in hL hx u
 have h2 := diff_worst hT (t := t) hp hq
 unfold redS at h
 simp only at h
 rw [e1, e2] at h ⊢
 omega
end
/-! ## The search, from its ends -/
theorem step_low (s : Sr) (e : Ed) (k now : Nat) : (s.step e k now).d = low s.d e := by
 unfold Sr.step low
 funext x
 unfold upd
 by_cases h : s.d e.a + e.w < s.d e.b
 ·rw [if_pos h]
  simp only
  split <;> omega
 ·rw [if_neg h]
  split
  ·rename_i hx; subst hx; omega
  ·rfl
theorem lowers_pass (E : List Ed) (t : Nat -> Int) : neg (pass E t) = lows (E.map St.flip) (neg t) := by
 rw [lows_flip, List.map_map]
 have : (E.map (St.flip ∘ St.flip)) = E := by
  have h : (St.flip ∘ St.flip) = (id : Ed -> Ed) := by funext e; rfl
  rw [h, List.map_id]
 rw [this, neg_neg']
end Go.Kin.Ct

namespace Go.Proofs
open Go.RowKit Go.Kin
namespace R23
abbrev tt := R24.tt
def inE (x : Int) : List Value := [.int .i64 x]
/-- rows in memory that is new -/
structure Fr (w w' : World) (A : Option Addr) (sz : Nat) (rows : List (List Value)) : Prop where
 at' : Kin.At w' A sz rows
 new : ∀ a, A = some a -> rows ≠ [] -> w.heap.size <= a.block
def flatI (l : List Int) : List Value := (l.map inE).flatten
theorem flatI_len (l : List Int) : (flatI l).length = l.length * 1 := by
 induction l with
 | nil => rfl
 | cons x l ih => unfold flatI at ih ⊢; rw [List.map_cons, List.flatten_cons, List.length_append, ih, List.length_cons]; show 1 + _ = _; omega
theorem flatI_app (l m : List Int) : flatI (l ++ m) = flatI l ++ flatI m := by unfold flatI; rw [List.map_append, List.flatten_append]
theorem flatI_snoc (l : List Int) (x : Int) : flatI (l ++ [x]) = flatI l ++ [.int .i64 x] := flatI_app l [x]
theorem flatI_one (l : List Int) : allOne (flatI l) = true := by
 induction l with
 | nil => rfl
 | cons x l ih => exact ih
theorem news_pre {c : Cx} {mem : List (Nat × Obj)} {b : Nat} {ys rest : List Value} {T' : TypeId} {fr : Nat × Nat} (hm : (b, Obj.cells ⟨ys ++ rest⟩ T' fr) ∈ mem) : News c mem b 0 ys :=
 ⟨fun W hW j v hj => by rw [hW.cellAt hm, Nat.zero_add, List.getElem?_append_left (List.getElem?_eq_some_iff.1 hj).1]; exact hj⟩
/-- a list of numbers in new memory, or nil -/
def RowQ (l : List Int) (w : World) (v : Value) (w' : World) : Prop :=
 (l = [] /\ v = .slice none 0 0) ∨ ∃ b cap rest, v = .slice (some ⟨b, 0, none⟩) l.length cap /\ Grow 1 l.length (flatI l) cap rest /\ w.heap.size <= b /\ w'.heap[b]? = some (.cells ⟨flatI l ++ rest⟩ 3 (0, 0))
end R23
end Go.Proofs

set_option maxRecDepth 100000
set_option maxHeartbeats 400000000
namespace Go.Proofs
open Go.RowKit Go.Kin Go.Kin.St Go.Kin.Ct
open R22
namespace R23
/-- an Uncertain, as it lies -/
structure Un where
 n : Int
 A : Option Addr
 cap : Nat
 L : List Lk
 B : Option Addr
 cab : Nat
 C : List Lk
@[reducible] def Un.v (u : Un) : List Value := [.int .i64 u.n, .slice u.A u.L.length u.cap, .slice u.B u.C.length u.cab]
structure Un.In (u : Un) (w : World) : Prop where
 l : Kin.At w u.A 4 (u.L.map lkE)
 c : Kin.At w u.B 4 (u.C.map lkE)
theorem Un.In.later {u : Un} {w w' : World} (h : u.In w) (k : Below w.heap.size w w') : u.In w' := ⟨h.l.later k, h.c.later k⟩
theorem Un.In.sat {u : Un} {w W : World} {J : (Nat -> Prop) -> World -> Prop} {mem : List (Nat × Obj)} (h : u.In w) (hm : SatW w (base w) J mem W) : u.In W := ⟨h.l.sat hm, h.c.sat hm⟩
/-- what `into` answers -/
def intoI (C : List Lk) (p : Int) : Int := match into C p with | some i => i | none => -1
theorem intoI_some {C : List Lk} {p : Int} {i : Nat} (h : into C p = some i) : intoI C p = i := by unfold intoI; rw [h]
theorem intoI_none {C : List Lk} {p : Int} (h : into C p = none) : intoI C p = -1 := by unfold intoI; rw [h]
theorem into_drop {C : List Lk} {p : Int} : ∀ k, (∀ x ∈ C.take k, x.to ≠ p) -> into C p = (into (C.drop k) p).map (· + k) := by
 induction C with
 | nil => intro k _; simp [into]
 | cons y C ih =>
  intro k hk
  cases k with
  | zero => simp
  | succ k =>
   have h1 : y.to ≠ p := hk y (by simp)
   have h2 := ih k fun x hx => hk x (by simp [hx])
   rw [into, if_neg h1, h2, List.drop_succ_cons, Option.map_map]
   congr 1
theorem into_at {C : List Lk} {p : Int} {k : Nat} {x : Lk} (hk : ∀ x ∈ C.take k, x.to ≠ p) (hx : C[k]? = some x) (hp : x.to = p) : into C p = some k := by
 rw [into_drop k hk]
 obtain ⟨hlt, he⟩ := List.getElem?_eq_some_iff.1 hx
 rw [List.drop_eq_getElem_cons hlt, into, he, if_pos hp]
 simp
theorem into_no {C : List Lk} {p : Int} (h : ∀ x ∈ C, x.to ≠ p) : into C p = none := by
 have := into_drop (C := C) (p := p) C.length (by rw [List.take_length]; exact h)
 rw [List.drop_length] at this
 exact this
theorem into_calls (u : Un) (p : Int) (w : World) (hA : u.In w) (hl : u.C.length <= 9223372036854775807) :
  Calls Try.prog 93 ⟨[.agg ⟨u.v⟩, .int .i64 p]⟩ w fun e w' => e = .returned (.int .i64 (intoI u.C p)) /\ Below w.heap.size w w' := by
 obtain ⟨n, A, cap, L, B, cab, C⟩ := u
 have hB := hA.c
 simp only at hB hl ⊢
 refine fEn Try.func93 rfl Try.ntmps93 rfl rfl (sWn w) ?_
 repeat (first|refine lVa rfl rfl (by first|exact pEv rfl|fail) ?_|refine lNi ?_|refine cRg ?_|refine cSq ?_|refine xTh ?_|refine r_box rfl rfl rfl rfl (fun _ => ?_)|refine cBl ?_|fail)
 rename_i b
 refine c_loop (ι := Nat) (fun k => k <= C.length /\ ∀ x ∈ C.take k, x.to ≠ p) (fun k => [(1, .int .i64 p), (2, .pointer (some ⟨b, 0, none⟩)), (5, .int .i64 k)]) (fun _ => [(b, .cells ⟨[.int .i64 n, .slice A L.length cap, .slice B C.length cab]⟩ 24 (0, 0))]) (fun k => C.length - k) 0 ⟨by omega, by simp⟩ (by repeat (first|exact .nil|refine .cons rfl (by first|rfl|(congr 1; done)|exact congrArg _ (by omega)|(simp; done)) ?_)) (by repeat (first|exact .nil|refine .keep (by first|rfl|assumption) ?_|refine .drop ?_|exact MSub.refl _)) ?_
 rintro k ⟨hk, hF⟩
 by_cases hlt : k < C.length
 ·obtain ⟨x, hx⟩ : ∃ x, C[k]? = some x := ⟨_, List.getElem?_eq_getElem hlt⟩
  obtain ⟨b', o, rfl, hc⟩ := hB k (lkE x) (by simp [hx])
  have he := ext_of hc
  by_cases hp : x.to = p
  ·repeat (first|refine lVa rfl rfl (by first|exact pEv rfl|exact vLd rfl (by repeat constructor) rfl (by rfl)|exact vLe rfl (by assumption) rfl (by rfl)|exact v_index rfl rfl rfl rfl (by omega) (by omega) (by with_reducible first|exact idx4 _ _ _|fail)|fail) ?_|refine lNi ?_|refine cRg ?_|refine cSq ?_|refine xTh ?_|refine c_dec_t rfl (by first|omega|fail) ?_|refine cBl ?_|refine cSk ?_|refine c_ret ?_|refine xTr ?_|refine xBr ?_|fail)
   exact x_ret rfl rfl (by repeat constructor) rfl (fun W hW => ⟨by rw [intoI_some (into_at hF hx hp)], hW.below⟩)
  ·repeat (first|refine lVa rfl rfl (by first|exact v_add rfl rfl (by omega) (by omega)|exact pEv rfl|exact vLd rfl (by repeat constructor) rfl (by rfl)|exact vLe rfl (by assumption) rfl (by rfl)|exact v_index rfl rfl rfl rfl (by omega) (by omega) (by with_reducible first|exact idx4 _ _ _|fail)|fail) ?_|refine lNi ?_|refine cRg ?_|refine cSq ?_|refine xTh ?_|refine c_dec_t rfl (by first|omega|fail) ?_|refine c_dec_f rfl (by first|omega|fail) ?_|refine cBl ?_|refine cSk ?_|refine x_block ?_|fail)
   refine x_back (k + 1) ⟨hlt, fun y hy => ?_⟩ (by omega) (by repeat (first|exact .nil|refine .cons rfl (by first|rfl|(congr 1; done)|exact congrArg _ (by omega)|(simp; done)) ?_)) (by repeat (first|exact .nil|refine .keep (by first|rfl|assumption) ?_|refine .drop ?_|exact MSub.refl _))
   rw [List.take_add_one, hx] at hy
   rcases List.mem_append.1 hy with h | h
   ·exact hF y h
   ·simp only [Option.toList_some, List.mem_singleton] at h
    rw [h]; exact hp
 ·have hkl : k = C.length := by omega
  subst hkl
  rw [List.take_length] at hF
  repeat (first|refine lVa rfl rfl (by first|exact pEv rfl|exact vLd rfl (by repeat constructor) rfl (by rfl)|fail) ?_|refine lNi ?_|refine cRg ?_|refine cSq ?_|refine xTh ?_|refine c_dec_f rfl (by first|omega|fail) ?_|refine c_ret ?_|refine c_exit ?_|refine xTe ?_|refine xBs ?_|fail)
  exact x_ret rfl rfl (by repeat constructor) rfl (fun W hW => ⟨by rw [intoI_none (into_no hF)], hW.below⟩)
/-- the called links are right, one by one -/
def Ends (n : Int) (C : List Lk) : Prop := ∀ i x, C[i]? = some x -> Cal n x /\ into C x.to = some i
noncomputable instance (n : Int) (C : List Lk) : Decidable (Ends n C) := Classical.propDecidable _
theorem ends_calls (u : Un) (w : World) (hA : u.In w) (hl : u.C.length <= 1000) :
  Calls Try.prog 72 ⟨[.agg ⟨u.v⟩]⟩ w fun e w' => e = .returned (.bool (decide (Ends u.n u.C))) /\ Below w.heap.size w w' := by
 have hin : ∀ (p : Int) (mem : List (Nat × Obj)) (W : World), SatW w (base w) noJ mem W -> Calls Try.prog 93 ⟨[.agg ⟨u.v⟩, .int .i64 p]⟩ W fun e w' => e = .returned (.int .i64 (intoI u.C p)) /\ Below W.heap.size W w' := fun p mem W hW => into_calls u p W (hA.sat hW) (by omega)
 have hB := hA.c
 obtain ⟨n, A, cap, L, B, cab, C⟩ := u
 simp only at hB hl hin ⊢
 refine fEn Try.func72 rfl Try.ntmps72 rfl rfl (sWn w) ?_
 repeat (first|refine lVa rfl rfl (by first|exact pEv rfl|fail) ?_|refine lNi ?_|refine cRg ?_|refine cSq ?_|refine xTh ?_|refine r_box rfl rfl rfl rfl (fun _ => ?_)|refine cBl ?_|fail)
 rename_i b
 refine c_loop (ι := Nat) (fun k => k <= C.length /\ ∀ i x, i < k -> C[i]? = some x -> Cal n x /\ into C x.to = some i) (fun k => [(1, .pointer (some ⟨b, 0, none⟩)), (2, .bool false), (3, .int .i64 k)]) (fun _ => [(b, .cells ⟨[.int .i64 n, .slice A L.length cap, .slice B C.length cab]⟩ 24 (0, 0))]) (fun k => C.length - k) 0 ⟨by omega, fun i x hi => by omega⟩ (by repeat (first|exact .nil|refine .cons rfl (by first|rfl|(congr 1; done)|exact congrArg _ (by omega)|(simp; done)) ?_)) (by repeat (first|exact .nil|refine .keep (by first|rfl|assumption) ?_|refine .drop ?_|exact MSub.refl _)) ?_
 rintro k ⟨hk, hF⟩
 by_cases hlt : k < C.length
 ·obtain ⟨x, hx⟩ : ∃ x, C[k]? = some x := ⟨_, List.getElem?_eq_getElem hlt⟩
  obtain ⟨b', o, rfl, hq⟩ := hB k (lkE x) (by simp [hx])
  have he := ext_of hq
  by_cases hc : Cal n x
  ·have hcc := hc
   unfold Cal at hcc
   obtain ⟨c1, c2, c3, c4, c5, c6, c7, c8⟩ := hcc
   repeat (first|refine lVa rfl rfl (by first|exact pEv rfl|exact vLd rfl (by repeat constructor) rfl (by rfl)|exact vL0 rfl (by assumption) rfl (by rfl)|exact v_index rfl rfl rfl rfl (by omega) (by omega) (by with_reducible first|exact idx4 _ _ _|fail)|fail) ?_|refine lNi ?_|refine cRg ?_|refine cSq ?_|refine xTh ?_|refine r_alloc rfl rfl rfl (by first|exact aggL|fail) (fun _ => ?_)|refine rSt rfl rfl rfl rfl rfl rfl rfl (by repeat constructor) (by rfl) ?_|refine c_dec_t rfl (by first|omega|fail) ?_|refine c_dec_f rfl (by first|omega|fail) ?_|refine cBl ?_|refine cSk ?_|refine l_dec_f rfl rfl rfl rfl rfl (by first|omega|fail) ?_|fail)
   refine r_call rfl rfl rfl (fun W hW => hin x.to _ W hW) ?_
   by_cases hi : into C x.to = some k
   ·rw [intoI_some hi]
    repeat (first|refine lVa rfl rfl (by first|exact v_add rfl rfl (by omega) (by omega)|exact pEv rfl|fail) ?_|refine lNi ?_|refine cRg ?_|refine cSq ?_|refine xTh ?_|refine c_dec_f rfl (by first|omega|fail) ?_|refine cSk ?_|refine x_block ?_|fail)
    refine x_back (k + 1) ⟨hlt, fun i y hi2 hy => ?_⟩ (by omega) (by repeat (first|exact .nil|refine .cons rfl (by first|rfl|(congr 1; done)|exact congrArg _ (by omega)|(simp; done)) ?_)) (by repeat (first|exact .nil|refine .keep (by first|rfl|assumption) ?_|refine .drop ?_|exact MSub.refl _))
    by_cases e : i = k
    ·subst e
     rw [hx] at hy
     cases hy
     exact ⟨hc, hi⟩
    ·exact hF i y (by omega) hy
   ·have hne : intoI C x.to ≠ k := fun h => by
     unfold intoI at h
     cases hj : into C x.to with
     | none => rw [hj] at h; simp only at h; omega
     | some j => rw [hj] at h hi; simp only at h; exact hi (by congr 1; omega)
    have hno : ¬ Ends n C := fun h => hi (h k x hx).2
    repeat (first|refine lVa rfl rfl (by first|exact pEv rfl|fail) ?_|refine lNi ?_|refine cRg ?_|refine cSq ?_|refine xTh ?_|refine c_dec_t rfl (by first|omega|fail) ?_|refine c_ret ?_|refine xTr ?_|refine xBr ?_|fail)
    exact x_ret rfl rfl (by repeat constructor) rfl (fun W hW => ⟨by rw [decide_eq_false hno], hW.below⟩)
  ·have hno : ¬ Ends n C := fun h => hc (h k x hx).1
   repeat' (first|refine lVa rfl rfl (by first|exact pEv rfl|exact vLd rfl (by repeat constructor) rfl (by rfl)|exact vL0 rfl (by assumption) rfl (by rfl)|exact v_index rfl rfl rfl rfl (by omega) (by omega) (by with_reducible first|exact idx4 _ _ _|fail)|fail) ?_|refine lNi ?_|refine cRg ?_|refine cSq ?_|refine xTh ?_|refine l_skip rfl rfl ?_|refine r_alloc rfl rfl rfl (by first|exact aggL|fail) (fun _ => ?_)|refine rSt rfl rfl rfl rfl rfl rfl rfl (by repeat constructor) (by rfl) ?_|refine c_true rfl ?_|refine c_dec_t rfl (by first|omega|fail) ?_|refine cBl ?_|refine cSk ?_|refine c_ret ?_|refine xTr ?_|refine xBr ?_|refine l_dec rfl rfl rfl rfl rfl (fun _ => ?_) (fun _ => ?_)|refine c_dec rfl (fun _ => ?_) (fun _ => ?_)|fail)
   all_goals first
    | exact x_ret rfl rfl (by repeat constructor) rfl (fun W hW => ⟨by rw [decide_eq_false hno], hW.below⟩)
    | exact absurd (show Cal n x by unfold Cal; omega) hc
 ·have hyes : Ends n C := fun i x hx => hF i x (by have := (List.getElem?_eq_some_iff.1 hx).1; omega) hx
  repeat (first|refine lVa rfl rfl (by first|exact pEv rfl|exact vLd rfl (by repeat constructor) rfl (by rfl)|fail) ?_|refine lNi ?_|refine cRg ?_|refine cSq ?_|refine xTh ?_|refine c_dec_f rfl (by first|omega|fail) ?_|refine c_ret ?_|refine c_exit ?_|refine xTe ?_|refine xBs ?_|fail)
  exact x_ret rfl rfl (by repeat constructor) rfl (fun W hW => ⟨by rw [decide_eq_true hyes], hW.below⟩)
/-! ## Chain -/
theorem climb_snoc {C : List Lk} : ∀ {j : Nat} {p : Int} {i : Nat}, (climb C j p).1.length = j -> into C (climb C j p).2 = some i -> climb C (j + 1) p = ((climb C j p).1 ++ [i], frm C i)
 | 0, p, i, _, h => climb_some (show into C p = some i from h) 0
 | j + 1, p, i, hl, h => by
  cases hp : into C p with
  | none => rw [climb_none hp] at hl; simp at hl
  | some k =>
   rw [climb_some hp] at hl h
   rw [climb_some hp (j + 1), climb_snoc (j := j) (by simpa using hl) h, climb_some hp j]
   rfl
/-- the links to a point after so many steps, the one at the root first -/
def outC (C : List Lk) (j : Nat) (p : Int) : List Int := (climb C j p).1.reverse.map fun i : Nat => (i : Int)
theorem outC_len {C : List Lk} {j : Nat} {p : Int} (h : (climb C j p).1.length = j) : (outC C j p).length = j := by unfold outC; rw [List.length_map, List.length_reverse, h]
/-- what Chain answers -/
def ChainQ (n : Nat) (C : List Lk) (p : Int) (w : World) (e : Ending) (w' : World) : Prop :=
 ∃ j b cap rest, j <= n + 1 /\ (climb C j p).1.length = j /\ (into C (climb C j p).2 = none ∨ j = n + 1) /\ e = .returned (.tuple ⟨[.slice (some ⟨b, 0, none⟩) j cap, .int .i64 (climb C j p).2, .bool (decide (j <= n))]⟩) /\
  Grow 1 j (flatI (outC C j p)) cap rest /\ Below w.heap.size w w' /\ w.heap.size <= b /\ w'.heap[b]? = some (.cells ⟨flatI (outC C j p) ++ rest⟩ 3 (0, 0))
structure CS where
 j : Nat
 b : Nat
 c : Nat
 r : List Value
theorem Chain_calls (u : Un) (N : Nat) (p : Int) (w : World) (hn : u.n = N) (hN : N <= 64) (hA : u.In w) (hl : u.C.length <= 1000) :
  Calls Try.prog 73 ⟨[.agg ⟨u.v⟩, .int .i64 p]⟩ w (ChainQ N u.C p w) := by
 have hin : ∀ (p : Int) (mem : List (Nat × Obj)) (W : World), SatW w (base w) noJ mem W -> Calls Try.prog 93 ⟨[.agg ⟨u.v⟩, .int .i64 p]⟩ W fun e w' => e = .returned (.int .i64 (intoI u.C p)) /\ Below W.heap.size W w' := fun p mem W hW => into_calls u p W (hA.sat hW) (by omega)
 have hB := hA.c
 obtain ⟨n, A, cap, L, B, cab, C⟩ := u
 simp only at hB hl hin hn ⊢
 subst hn
 refine fEn Try.func73 rfl Try.ntmps73 rfl rfl (sWn w) ?_
 repeat (first|refine lVa rfl rfl (by first|exact pEv rfl|exact vLd rfl (by repeat constructor) rfl (by rfl)|fail) ?_|refine lNi ?_|refine cRg ?_|refine cSq ?_|refine xTh ?_|refine r_box rfl rfl rfl rfl (fun _ => ?_)|refine r_buildSlice rfl rfl rfl rfl rfl rfl (by rfl) (fun _ => ?_)|fail)
 refine r_call rfl rfl rfl (fun W hW => hin p _ W hW) ?_
 repeat (first|refine lVa rfl rfl (by first|exact pEv rfl|fail) ?_|refine lNi ?_|refine cSq ?_|refine xTh ?_|refine cBl ?_|fail)
 rename_i b b0
 refine c_loop (ι := CS) (fun s => s.j <= N + 1 /\ (climb C s.j p).1.length = s.j /\ Grow 1 s.j (flatI (outC C s.j p)) s.c s.r) (fun s => [(1, .int .i64 (climb C s.j p).2), (2, .pointer (some ⟨b, 0, none⟩)), (4, .slice none 0 0), (5, .int .i64 0), (6, .bool false), (7, .slice (some ⟨s.b, 0, none⟩) s.j s.c), (8, .int .i64 (intoI C (climb C s.j p).2))])
  (fun s => [(s.b, .cells ⟨flatI (outC C s.j p) ++ s.r⟩ 3 (0, 0)), (b, .cells ⟨[.int .i64 N, .slice A L.length cap, .slice B C.length cab]⟩ 24 (0, 0))]) (fun s => N + 1 - s.j) ⟨0, b0, 0, []⟩ ⟨Nat.zero_le _, rfl, ⟨rfl, rfl, Nat.le_refl _, (show (0 : Nat) <= maxLen by decide)⟩⟩ (by repeat (first|exact .nil|refine .cons rfl (by first|rfl|(congr 1; done)|exact congrArg _ (by omega)|(simp; done)) ?_)) (by repeat (first|exact .nil|refine .keep (by first|rfl|assumption) ?_|refine .drop ?_|exact MSub.refl _)) ?_
 rintro ⟨j, bo, co, ro⟩ ⟨hj, hcl, hg⟩
 simp only at hj hcl hg ⊢
 cases hi : into C (climb C j p).2 with
 | none =>
  rw [intoI_none hi]
  repeat (first|refine lVa rfl rfl (by first|exact pEv rfl|fail) ?_|refine lNi ?_|refine cRg ?_|refine cSq ?_|refine xTh ?_|refine l_skip rfl rfl ?_|refine c_false rfl ?_|refine c_ret ?_|refine c_exit ?_|refine xTe ?_|refine xBs ?_|refine c_reads rfl (by decide +kernel) ?_|refine q_val rfl rfl (by first|exact pEv rfl|exact vLd rfl (by repeat constructor) rfl (by rfl)|fail) ?_|refine q_nil ?_|fail)
  exact x_ret rfl rfl (by repeat constructor) rfl (fun W hW => ⟨j, bo, co, ro, hj, hcl, .inl hi, by first|rfl|(congr 1; done)|(simp; done), hg, hW.below, Nat.le_of_not_lt (hW.own (bo, _) (by repeat constructor)).1, (hW.own (bo, _) (by repeat constructor)).2⟩)
 | some i =>
  rw [intoI_some hi]
  by_cases hjn : j <= N
  ·have hci := into_lt hi
   obtain ⟨x, hx, -⟩ := into_some hi
   obtain ⟨b', o, rfl, hc⟩ := hB i (lkE x) (by simp [hx])
   have he := ext_of hc
   have hf : frm C i = x.fr := by unfold frm; rw [hx]
   have hsn := climb_snoc hcl hi
   have hout : flatI (outC C (j + 1) p) = [.int .i64 (i : Int)] ++ flatI (outC C j p) := by
    unfold outC; rw [hsn, List.reverse_append, List.map_append, flatI_app]; rfl
   repeat (first|refine lVa rfl rfl (by first|exact pEv rfl|exact vLd rfl (by repeat constructor) rfl (by rfl)|fail) ?_|refine lNi ?_|refine cRg ?_|refine cSq ?_|refine xTh ?_|refine r_buildSlice rfl rfl rfl rfl rfl rfl (by rfl) (fun _ => ?_)|refine c_dec_t rfl (by first|omega|fail) ?_|refine cBl ?_|refine cSk ?_|fail)
   refine r_append (n := 1) (xs := [.int .i64 (i : Int)]) (rest := []) (m := j) (ys := flatI (outC C j p)) rfl rfl rfl rfl rfl rfl (news_pre (by repeat constructor)) (by repeat (first|exact Rem.head|apply Rem.tail)) ⟨rfl, rfl, Nat.le_refl _, (show (1 : Nat) <= maxLen by decide)⟩ (by rw [flatI_len, outC_len hcl]) (flatI_one _) (by decide) (by omega) (by unfold maxLen; omega) (fun b7 c7 r7 hg7 => ?_)
   rw [<- hout] at hg7 ⊢
   rw [Nat.add_comm 1 j] at hg7 ⊢
   repeat (first|refine lVa rfl rfl (by first|exact pEv rfl|exact vLd rfl (by repeat constructor) rfl (by rfl)|exact vL0 rfl (by assumption) rfl (by rfl)|exact v_index rfl rfl rfl rfl (by omega) (by omega) (by with_reducible first|exact idx4 _ _ _|fail)|fail) ?_|refine lNi ?_|refine cRg ?_|refine cSq ?_|refine xTh ?_|fail)
   refine r_call rfl rfl rfl (fun W hW => hin x.fr _ W hW) ?_
   rw [<- hf, show frm C i = (climb C (j + 1) p).2 by rw [hsn]]
   repeat (first|refine lVa rfl rfl (by first|exact pEv rfl|fail) ?_|refine lNi ?_|refine x_block ?_|fail)
   exact x_back ⟨j + 1, b7, c7, r7⟩ ⟨by simp only; omega, by rw [hsn, List.length_append, hcl]; rfl, hg7⟩ (by simp only; omega) (by repeat (first|exact .nil|refine .cons rfl (by first|rfl|(congr 1; done)|exact congrArg _ (by omega)|(simp; done)) ?_)) (by repeat (first|exact .nil|refine .keep (by first|rfl|assumption) ?_|refine .drop ?_|exact MSub.refl _))
  ·have hje : j = N + 1 := by omega
   repeat (first|refine lVa rfl rfl (by first|exact pEv rfl|exact vLd rfl (by repeat constructor) rfl (by rfl)|fail) ?_|refine lNi ?_|refine cRg ?_|refine cSq ?_|refine xTh ?_|refine c_dec_f rfl (by first|omega|fail) ?_|refine c_ret ?_|refine c_exit ?_|refine xTe ?_|refine xBs ?_|refine c_reads rfl (by decide +kernel) ?_|refine q_val rfl rfl (by first|exact pEv rfl|exact vLd rfl (by repeat constructor) rfl (by rfl)|fail) ?_|refine q_nil ?_|fail)
   exact x_ret rfl rfl (by repeat constructor) rfl (fun W hW => ⟨j, bo, co, ro, hj, hcl, .inr hje, by first|rfl|(congr 1; done)|(simp; done), hg, hW.below, Nat.le_of_not_lt (hW.own (bo, _) (by repeat constructor)).1, (hW.own (bo, _) (by repeat constructor)).2⟩)
end R23
end Go.Proofs

/- The same work: what is cut, in plain words. -/
import Derived.Test.YtajnkdgbpffinaaGreatEng62
set_option linter.unusedSectionVars false
set_option linter.unusedVariables false
set_option linter.unusedSimpArgs false
namespace Go.Proofs
open Go.RowKit Go.Kin Go.Kin.Cl
namespace R41
/-- the elements whose places a word picks -/
def sel (p : Nat -> Bool) : Nat -> List Sg -> List Sg
 | _, [] => []
 | i, s :: l => if p i then s :: sel p (i + 1) l else sel p (i + 1) l
theorem sel_snoc (p : Nat -> Bool) (s : Sg) : ∀ (l : List Sg) (i : Nat), sel p i (l ++ [s]) = sel p i l ++ if p (i + l.length) then [s] else []
 | [], i => by
  rw [List.nil_append, sel, sel, sel, List.length_nil, Nat.add_zero]
  cases p i <;> rfl
 | x :: l, i => by
  rw [List.cons_append, sel, sel, sel_snoc p s l (i + 1), List.length_cons, show i + 1 + l.length = i + (l.length + 1) by omega]
  cases p i <;> simp
theorem sel_sub (p : Nat -> Bool) : ∀ (l : List Sg) (i : Nat), (sel p i l).Sublist l
 | [], _ => .slnil
 | s :: l, i => by
  rw [sel]
  cases p i
  ·simp only [Bool.false_eq_true, if_false]; exact .cons _ (sel_sub p l (i + 1))
  ·simp only [if_true]; exact .cons_cons _ (sel_sub p l (i + 1))
/-- the patches that cut signs, from a number on -/
def psF : Nat -> List Sg -> List (Int × Int)
 | _, [] => []
 | i, s :: l => ((i : Int) + 1, s.id) :: psF (i + 1) l
theorem psF_snoc (s : Sg) : ∀ (l : List Sg) (i : Nat), psF i (l ++ [s]) = psF i l ++ [(((i + l.length : Nat) : Int) + 1, s.id)]
 | [], i => rfl
 | x :: l, i => by
  rw [List.cons_append, psF, psF_snoc s l (i + 1), psF, List.cons_append, List.length_cons, show i + 1 + l.length = i + (l.length + 1) by omega]
theorem psF_len : ∀ (l : List Sg) (i : Nat), (psF i l).length = l.length
 | [], _ => rfl
 | x :: l, i => by rw [psF, List.length_cons, psF_len l (i + 1), List.length_cons]
theorem psF_sg : ∀ (l : List Sg) (i : Nat), (psF i l).map (·.2) = l.map (·.id)
 | [], _ => rfl
 | x :: l, i => by rw [psF, List.map_cons, List.map_cons, psF_sg l (i + 1)]
theorem psF_id : ∀ (l : List Sg) (i : Nat), (∀ x ∈ (psF i l).map (·.1), (i : Int) + 1 <= x /\ x <= i + l.length) /\ ((psF i l).map (·.1)).Pairwise (· < ·)
 | [], _ => ⟨fun x hx => by simp [psF] at hx, List.Pairwise.nil⟩
 | x :: l, i => by
  obtain ⟨h1, h2⟩ := psF_id l (i + 1)
  rw [psF, List.map_cons]
  refine ⟨fun y hy => ?_, List.pairwise_cons.2 ⟨fun y hy => ?_, h2⟩⟩
  ·rcases List.mem_cons.1 hy with rfl | hy
   ·simp only [List.length_cons]; omega
   ·have := h1 y hy; simp only [List.length_cons]; omega
  ·have := h1 y hy; simp only; omega
theorem sto_of {l C : List Sg} (hC : C.Sublist l) (hl : l.length <= 24) (hr : ∀ s ∈ l, 0 <= s.id /\ s.id <= 1048576) (hp : l.Pairwise fun a b => a.id < b.id) : Sto (psF 0 C) where
 len := by rw [psF_len]; have := hC.length_le; omega
 pid p hp := by
  have h1 := (psF_id C 0).1 p.1 (List.mem_map.2 ⟨p, hp, rfl⟩)
  have := hC.length_le
  omega
 sid p hp := by
  have h1 : p.2 ∈ (psF 0 C).map (·.2) := List.mem_map.2 ⟨p, hp, rfl⟩
  rw [psF_sg] at h1
  obtain ⟨s, hs, e⟩ := List.mem_map.1 h1
  rw [<- e]; exact hr s (hC.subset hs)
 inc := (psF_id C 0).2
 nd := by
  rw [psF_sg]
  have h1 : (C.map (·.id)).Pairwise (· < ·) := List.pairwise_map.2 (hp.sublist hC)
  exact h1.imp fun h => Int.ne_of_lt h
/-- what is left when the cut ones are gone -/
theorem sel_del (p : Nat -> Bool) : ∀ (l : List Sg) (i : Nat), l.Pairwise (fun a b => a.id < b.id) -> delS ((sel p i l).map (·.id)) l = sel (fun j => !p j) i l
 | [], _, _ => rfl
 | s :: l, i, hp => by
  obtain ⟨h1, h2⟩ := List.pairwise_cons.1 hp
  have ih := sel_del p l (i + 1) h2
  have hsub := sel_sub p l (i + 1)
  have hnin : s.id ∉ (sel p (i + 1) l).map (·.id) := fun hm => by
   obtain ⟨x, hx, e⟩ := List.mem_map.1 hm
   have := h1 x (hsub.subset hx); omega
  have hcons : ∀ L : List Int, delS (s.id :: L) l = delS L l := fun L => by
   unfold delS
   refine List.filter_congr fun x hx => ?_
   have := h1 x hx
   rw [List.contains_cons]
   have hne : (x.id == s.id) = false := by simp; omega
   rw [hne]; rfl
  rw [sel, sel]
  cases hq : p i
  ·simp only [Bool.false_eq_true, if_false, Bool.not_false, if_true]
   unfold delS at ih ⊢
   rw [List.filter_cons_of_pos (by rw [List.contains_eq_mem]; simpa using hnin), ih]
  ·simp only [if_true, Bool.not_true, Bool.false_eq_true, if_false, List.map_cons]
   have : delS (s.id :: (sel p (i + 1) l).map (·.id)) (s :: l) = delS (s.id :: (sel p (i + 1) l).map (·.id)) l := by
    unfold delS
    rw [List.filter_cons_of_neg (by simp)]
   rw [this, hcons, ih]
/-- the essential ones among the cut ones -/
def dropS (C : List Sg) : List Int := (C.filter isE).map (·.id)
theorem okD_drop {l C : List Sg} (hC : C.Sublist l) (hl : l.length <= 24) (hr : ∀ s ∈ l, 0 <= s.id /\ s.id <= 1048576) (hp : l.Pairwise fun a b => a.id < b.id) : okD (dropS C) := by
 have hs : (C.filter isE).Sublist l := List.filter_sublist.trans hC
 refine ⟨?_, fun d hd => ?_, List.pairwise_map.2 (hp.sublist hs)⟩
 ·unfold dropS; rw [List.length_map]; have := hs.length_le; omega
 ·obtain ⟨s, h1, rfl⟩ := List.mem_map.1 hd
  exact hr s (hs.subset h1)
/-- the essence of what is left -/
theorem ess_sub {l K : List Sg} (hf : ∀ s ∈ l, formB s = true) (hp : l.Pairwise fun a b => a.id < b.id) (hK : K.Sublist l) : (essC K).Sublist (essC l) := by
 have hperm : ((essL l).filter fun s => decide (s ∈ K)).Perm (K.filter isE) := by
  have h1 : ((essL l).filter fun s => decide (s ∈ K)).Perm ((l.filter isE).filter fun s => decide (s ∈ K)) := (sortS_perm _).filter _
  have h2 : (l.filter isE).filter (fun s => decide (s ∈ K)) = (l.filter fun s => decide (s ∈ K)).filter isE := by
   rw [List.filter_filter, List.filter_filter]
   exact List.filter_congr fun x _ => by rw [Bool.and_comm]
  have h3 : ∀ {l K : List Sg}, l.Pairwise (fun a b => a.id < b.id) -> K.Sublist l -> l.filter (fun s => decide (s ∈ K)) = K := fun hp hK => by
   induction hK with
   | slnil => rfl
   | cons x h ih =>
    obtain ⟨g1, g2⟩ := List.pairwise_cons.1 hp
    rw [List.filter_cons_of_neg, ih g2]
    intro hm
    have := g1 x (h.subset (of_decide_eq_true hm)); omega
   | cons_cons x h ih =>
    rename_i l1 l2
    obtain ⟨g1, g2⟩ := List.pairwise_cons.1 hp
    rw [List.filter_cons_of_pos (by simp)]
    congr 1
    rw [<- ih g2]
    refine List.filter_congr fun y hy => ?_
    have := g1 y hy
    rw [ih g2]
    have hne : y ≠ x := fun e => by rw [e] at this; omega
    simp [hne]
  rw [h2, h3 hp hK] at h1
  exact h1
 have hid : idP (K.filter isE) := fun x hx y hy => idP_of hp x (hK.subset (List.mem_filter.1 hx).1) y (hK.subset (List.mem_filter.1 hy).1)
 have hs1 : ((essL l).filter fun s => decide (s ∈ K)).Pairwise leS := (sortS_sorted _ fun s hs => hf s (List.mem_filter.1 hs).1).sublist List.filter_sublist
 have he : (essL l).filter (fun s => decide (s ∈ K)) = essL K := sort_uniq hid hperm hs1 (sortS_perm _) (sortS_sorted _ fun s hs => hf s (hK.subset (List.mem_filter.1 hs).1))
 unfold essC
 rw [<- he]
 exact List.Sublist.map _ List.filter_sublist
theorem sel_count (p : Nat -> Bool) : ∀ (l : List Sg) (i : Nat), (l.filter isE).length = ((sel p i l).filter isE).length + ((sel (fun j => !p j) i l).filter isE).length
 | [], _ => rfl
 | s :: l, i => by
  have ih := sel_count p l (i + 1)
  rw [sel, sel, List.filter_cons]
  cases hq : p i <;> cases he : isE s <;> simp [he, List.filter_cons, ih] <;> omega
theorem ess_count (p : Nat -> Bool) (l : List Sg) : (essC l).length = (essC (sel (fun j => !p j) 0 l)).length + (dropS (sel p 0 l)).length := by
 unfold essC essL dropS
 rw [List.length_map, List.length_map, List.length_map, (sortS_perm _).length_eq, (sortS_perm _).length_eq, sel_count p l 0]
 omega
end R41
end Go.Proofs

set_option maxRecDepth 100000
set_option maxHeartbeats 400000000
namespace Go.Proofs
open Go.RowKit Go.Kin Go.Kin.Cl
namespace R41
section
variable {P : Program} {N : Nat} {c : Cx} {env : List (Nat × Value)} {mem : List (Nat × Obj)} {tt : List (TypeId × TI)} {ty : TypeId} {pos : String} {af : Array Edge} {g : Option (Nat × Bool)} {dd : Option Tmp}
theorem v_lenG [Wide c.F] [T : TT P tt] {α : Type} {xs : List α} {b cp t e sz bt : Nat} {z : Value} {x : Operand} (ht : Kin.look tt t = some ⟨.slice e, sz, bt, z⟩) (hx : evOp env x = some (gSl xs b cp)) : OpVal P N c env mem ⟨dd, .call ⟨.builtin .len, ⟨[x]⟩, ⟨[t]⟩⟩, ty, pos, af, g⟩ (.int .i64 (xs.length : Int)) := by
 obtain ⟨A, c', h⟩ := gSl_len (l := xs) (b := b) (cap := cp)
 rw [h] at hx
 refine pEv (tt := tt) ?_
 simp only [pureEval, callEval, ht, hx]
end
theorem pm2 {α : Type} {X G1 G2 R : List α} : (X ++ (G1 ++ (G2 ++ R))).Perm (G2 ++ (X ++ (G1 ++ R))) := by
 rw [<- List.append_assoc, <- List.append_assoc X G1 R]
 exact List.perm_append_comm_assoc _ _ _
theorem pm3 {α : Type} {X G1 G2 G3 R : List α} : (X ++ (G1 ++ (G2 ++ (G3 ++ R)))).Perm (G3 ++ (X ++ (G1 ++ (G2 ++ R)))) := by
 rw [<- List.append_assoc G1 G2, <- List.append_assoc G1 G2 R]
 exact pm2
theorem pm4 {α : Type} {X G1 G2 G3 G4 R : List α} : (X ++ (G1 ++ (G2 ++ (G3 ++ (G4 ++ R))))).Perm (G4 ++ (X ++ (G1 ++ (G2 ++ (G3 ++ R))))) := by
 rw [<- List.append_assoc G1 G2, <- List.append_assoc G1 G2 (G3 ++ R)]
 exact pm3
theorem pE_rows (l : List (Int × Int)) : ((l.map pE).flatten).length = l.length * 19 := by
 induction l with
 | nil => rfl
 | cons x l ih => rw [List.map_cons, List.flatten_cons, List.length_append, ih]; show 19 + l.length * 19 = (l.length + 1) * 19; omega
structure PaT where
 k : Nat
 bk : Nat
 ck : Nat
 rk : List Value
 bs : Nat
 cs : Nat
 rs : List Value
 bi : Nat
 ci : Nat
 ri : List Value
 bd : Nat
 cd : Nat
 rd : List Value
/-- whether a place is cut -/
def cutB (cut : Int) (k : Nat) : Bool := !decide (bits .and .u32 (cut / 2 ^ k) 1 = 0)
theorem sw_parts {w : World} {A : Option Addr} {cap : Nat} {l : List Sg} {cut limit : Int} {A3 : Option Addr} {c3 m3 : Nat} {ed day time : Int} (hA : Kin.At w A 14 (l.map sgE)) (hl : l.length <= 24)
  (kk : ∀ s : PaT, gOK sgE 14 (sel (fun j => !cutB cut j) 0 l) s.ck s.rk -> gOK pE 19 (psF 0 (sel (cutB cut) 0 l)) s.cs s.rs -> gOK inE 1 ((psF 0 (sel (cutB cut) 0 l)).map (·.1)) s.ci s.ri -> gOK inE 1 (dropS (sel (cutB cut) 0 l)) s.cd s.rd ->
   RunC Tryz.prog Tryz.f3.ntmps ⟨Fence.wide, 0, [], w, base w, noJ⟩ (seqTl 7 ((Tryz.f3.body).getD .skip)) (bodyPostK Tryz.prog Tryz.f3 fun e w' => e = .returned (.bool true) /\ Under w.heap.size w w')
   [(0, .slice A l.length cap), (2, .int .i64 limit), (3, .slice A3 m3 c3), (4, .int .i64 ed), (5, .int .i64 day), (6, .int .i64 time), (15, gSl (sel (fun j => !cutB cut j) 0 l) s.bk s.ck), (16, gSl (psF 0 (sel (cutB cut) 0 l)) s.bs s.cs), (17, gSl ((psF 0 (sel (cutB cut) 0 l)).map (·.1)) s.bi s.ci), (18, gSl (dropS (sel (cutB cut) 0 l)) s.bd s.cd)]
   (gM sgE 32 (sel (fun j => !cutB cut j) 0 l) s.bk s.rk ++ (gM pE 34 (psF 0 (sel (cutB cut) 0 l)) s.bs s.rs ++ (gM inE 3 ((psF 0 (sel (cutB cut) 0 l)).map (·.1)) s.bi s.ri ++ (gM inE 3 (dropS (sel (cutB cut) 0 l)) s.bd s.rd ++ []))))) :
  RunC Tryz.prog Tryz.f3.ntmps ⟨Fence.wide, 0, [], w, base w, noJ⟩ (seqTl 3 ((Tryz.f3.body).getD .skip)) (bodyPostK Tryz.prog Tryz.f3 fun e w' => e = .returned (.bool true) /\ Under w.heap.size w w')
   [(0, .slice A l.length cap), (1, .int .u32 cut), (2, .int .i64 limit), (3, .slice A3 m3 c3), (4, .int .i64 ed), (5, .int .i64 day), (6, .int .i64 time)] [] := by
 obtain ⟨n, hn⟩ : ∃ n, l.length = n := ⟨_, rfl⟩
 rw [hn] at hl kk ⊢
 repeat ((fail_if_success refine c_probe (id := 9) ?_); (fail_if_success refine c_probe1 (id := 9) ?_); first|refine lVa rfl rfl (by first|exact pEv rfl|fail) ?_|refine lNi ?_|refine cRg ?_|refine cSq ?_|refine xTh ?_|refine cBl ?_|fail)
 refine c_loop (ι := PaT) (fun s => s.k <= n /\ gOK sgE 14 (sel (fun j => !cutB cut j) 0 (l.take s.k)) s.ck s.rk /\ gOK pE 19 (psF 0 (sel (cutB cut) 0 (l.take s.k))) s.cs s.rs /\ gOK inE 1 ((psF 0 (sel (cutB cut) 0 (l.take s.k))).map (·.1)) s.ci s.ri /\ gOK inE 1 (dropS (sel (cutB cut) 0 (l.take s.k))) s.cd s.rd)
  (fun s => [(0, .slice A n cap), (1, .int .u32 cut), (2, .int .i64 limit), (3, .slice A3 m3 c3), (4, .int .i64 ed), (5, .int .i64 day), (6, .int .i64 time), (15, gSl (sel (fun j => !cutB cut j) 0 (l.take s.k)) s.bk s.ck), (16, gSl (psF 0 (sel (cutB cut) 0 (l.take s.k))) s.bs s.cs), (17, gSl ((psF 0 (sel (cutB cut) 0 (l.take s.k))).map (·.1)) s.bi s.ci), (18, gSl (dropS (sel (cutB cut) 0 (l.take s.k))) s.bd s.cd), (72, .slice A n cap), (73, .int .i64 n), (74, .int .i64 s.k)])
  (fun s => gM sgE 32 (sel (fun j => !cutB cut j) 0 (l.take s.k)) s.bk s.rk ++ (gM pE 34 (psF 0 (sel (cutB cut) 0 (l.take s.k))) s.bs s.rs ++ (gM inE 3 ((psF 0 (sel (cutB cut) 0 (l.take s.k))).map (·.1)) s.bi s.ri ++ (gM inE 3 (dropS (sel (cutB cut) 0 (l.take s.k))) s.bd s.rd ++ [])))) (fun s => n - s.k) ⟨0, 0, 0, [], 0, 0, [], 0, 0, [], 0, 0, []⟩
  ⟨Nat.zero_le _, fun h => absurd rfl h, fun h => absurd rfl h, fun h => absurd rfl h, fun h => absurd rfl h⟩ (by repeat (first|exact .nil|refine .cons rfl (by first|rfl|(congr 1; done)|exact congrArg _ (by omega)|(simp; done)) ?_)) .nil ?_
 rintro ⟨k, bk, ck, rk, bs, cs, rs, bi, ci, ri, bd, cd, rd⟩ ⟨hk, g1, g2, g3, g4⟩
 simp only at hk g1 g2 g3 g4 ⊢
 by_cases hlt : k < n
 ·obtain ⟨s, hs⟩ : ∃ s, l[k]? = some s := ⟨_, List.getElem?_eq_getElem (by omega)⟩
  obtain ⟨bb, o, rfl, hcS⟩ := hA k (sgE s) (by rw [List.getElem?_map, hs]; rfl)
  have x1 := ext_of hcS
  have htk : l.take (k + 1) = l.take k ++ [s] := by
   obtain ⟨h1, h2⟩ := List.getElem?_eq_some_iff.1 hs
   rw [List.take_succ_eq_append_getElem h1, h2]
  have hkl : (l.take k).length = k := by rw [List.length_take]; omega
  have eK : sel (fun j => !cutB cut j) 0 (l.take (k + 1)) = sel (fun j => !cutB cut j) 0 (l.take k) ++ if !cutB cut k then [s] else [] := by rw [htk, sel_snoc, Nat.zero_add, hkl]
  have eC : sel (cutB cut) 0 (l.take (k + 1)) = sel (cutB cut) 0 (l.take k) ++ if cutB cut k then [s] else [] := by rw [htk, sel_snoc, Nat.zero_add, hkl]
  have lK := (sel_sub (fun j => !cutB cut j) (l.take k) 0).length_le
  have lC := (sel_sub (cutB cut) (l.take k) 0).length_le
  rw [hkl] at lK lC
  have lP := psF_len (sel (cutB cut) 0 (l.take k)) 0
  obtain ⟨K, hK⟩ : ∃ K, sel (fun j => !cutB cut j) 0 (l.take k) = K := ⟨_, rfl⟩
  obtain ⟨C, hC⟩ : ∃ C, sel (cutB cut) 0 (l.take k) = C := ⟨_, rfl⟩
  rw [hK] at eK lK g1 ⊢
  rw [hC] at eC lC lP g2 g3 g4 ⊢
  have hq : cutB cut k = !decide (bits .and .u32 (cut / 2 ^ k) 1 = 0) := rfl
  have g1' := fun (_ : Unit) => g1
  have g2' := fun (_ : Unit) => g2
  have g3' := fun (_ : Unit) => g3
  have g4' := fun (_ : Unit) => g4
  clear g1 g2 g3 g4 htk hkl hcS hA kk
  have hpb := bits .and .u32 (cut / 2 ^ k) 1
  by_cases hbit : bits .and .u32 (cut / 2 ^ k) 1 = 0
  ·rw [decide_eq_true hbit] at hq
   have hq' : cutB cut k = false := hq
   rw [hq', Bool.not_false, if_pos rfl] at eK
   rw [hq', if_neg (by decide), List.append_nil] at eC
   repeat ((fail_if_success refine c_probe (id := 11) ?_); (fail_if_success refine c_probe1 (id := 11) ?_); first|refine lVa rfl rfl (by first|exact pEv rfl|exact vL0 rfl (by assumption) rfl (by rfl)|exact v_index rfl rfl rfl rfl (by omega) (by omega) (by with_reducible first|exact idx4 _ _ _|fail)|fail) ?_|refine lNi ?_|refine cRg ?_|refine cSq ?_|refine xTh ?_|refine r_alloc rfl rfl rfl (by first|exact aggL|fail) (fun _ => ?_)|refine rSt rfl rfl rfl rfl rfl rfl rfl (by repeat constructor) (by rfl) ?_|refine c_dec_t rfl (by first|omega|fail) ?_|refine cBl ?_|refine cSk ?_|fail)
   refine cSq ?_
   repeat (first|refine lVa rfl rfl (v_shrU (n := k) rfl rfl (by omega)) ?_|refine lVa rfl rfl (v_andU rfl rfl) ?_|refine lVa rfl rfl (by first|exact pEv rfl|exact vLd rfl (by repeat constructor) rfl (by rfl)|fail) ?_|refine lNi ?_|refine cRg ?_|refine cSq ?_|refine xTh ?_|refine r_buildSlice rfl rfl rfl rfl rfl rfl (by rfl) (fun _ => ?_)|refine c_dec_t rfl (by first|omega|fail) ?_|fail)
   refine r_appendZ (f := sgE) (e := 32) (sz := 14) (xs := K) (ys := [s]) (m := 1) rfl rfl rfl rfl rfl rfl rfl (.inr ⟨_, 0, rfl, news_own (by repeat constructor)⟩) (List.perm_append_comm_assoc [_, _] (gM sgE 32 K bk rk) _) (g1' ()) sgE_rows rfl rfl (by omega) (by unfold maxLen; omega) (fun b8 c8 r8 hg8 => ?_)
   have hg8' := fun (_ : Unit) => hg8
   clear hg8
   refine l_perm (List.perm_append_comm_assoc _ [_, _] _) ?_
   simp only [List.cons_append, List.nil_append]
   repeat ((fail_if_success refine c_probe (id := 17) ?_); (fail_if_success refine c_probe1 (id := 17) ?_); first|refine lVa rfl rfl (by first|exact v_add rfl rfl (by omega) (by omega)|exact pEv rfl|fail) ?_|refine lNi ?_|refine cRg ?_|refine xTh ?_|refine c_exit ?_|refine xTe ?_|refine xBs ?_|fail)
   refine x_back ⟨k + 1, b8, c8, r8, bs, cs, rs, bi, ci, ri, bd, cd, rd⟩ ⟨hlt, by simp only; rw [eK]; exact hg8' (), by simp only; rw [eC]; exact g2' (), by simp only; rw [eC]; exact g3' (), by simp only; rw [eC]; exact g4' ()⟩ (by simp only; omega) ?_ ?_
   ·simp only; rw [eK, eC]; exact (by repeat (first|exact .nil|refine .cons rfl (by first|rfl|(congr 1; done)|exact congrArg _ (by omega)|(simp; done)) ?_))
   ·simp only; rw [eK, eC]; exact .drop (.drop (.refl _))
  ·rw [decide_eq_false hbit] at hq
   have hq' : cutB cut k = true := hq
   rw [hq', Bool.not_true, if_neg (by decide), List.append_nil] at eK
   rw [hq', if_pos rfl] at eC
   have eP : psF 0 (sel (cutB cut) 0 (l.take (k + 1))) = psF 0 C ++ [(((C.length : Nat) : Int) + 1, s.id)] := by rw [eC, psF_snoc, Nat.zero_add]
   have eI : (psF 0 (sel (cutB cut) 0 (l.take (k + 1)))).map (·.1) = (psF 0 C).map (·.1) ++ [((C.length : Nat) : Int) + 1] := by rw [eP, List.map_append]; rfl
   have eD : dropS (sel (cutB cut) 0 (l.take (k + 1))) = dropS C ++ if isE s then [s.id] else [] := by
    rw [eC]; unfold dropS
    rw [List.filter_append, List.map_append, List.filter_cons]
    cases isE s <;> rfl
   have lI : ((psF 0 C).map (·.1)).length = C.length := by rw [List.length_map, lP]
   have lD : (dropS C).length <= C.length := by unfold dropS; rw [List.length_map]; exact List.length_filter_le _ _
   obtain ⟨ps, hps⟩ : ∃ ps, psF 0 C = ps := ⟨_, rfl⟩
   obtain ⟨ids, hids⟩ : ∃ ids, ps.map (·.1) = ids := ⟨_, rfl⟩
   obtain ⟨D, hD⟩ : ∃ D, dropS C = D := ⟨_, rfl⟩
   rw [hps] at eP eI lP lI g2' g3' ⊢
   rw [hids] at eI lI g3' ⊢
   rw [hD] at eD lD g4' ⊢
   obtain ⟨nc, hnc⟩ : ∃ nc, C.length = nc := ⟨_, rfl⟩
   rw [hnc] at lC lP lI lD eP eI
   repeat ((fail_if_success refine c_probe (id := 11) ?_); (fail_if_success refine c_probe1 (id := 11) ?_); first|refine lVa rfl rfl (by first|exact pEv rfl|exact vL0 rfl (by assumption) rfl (by rfl)|exact v_index rfl rfl rfl rfl (by omega) (by omega) (by with_reducible first|exact idx4 _ _ _|fail)|fail) ?_|refine lNi ?_|refine cRg ?_|refine cSq ?_|refine xTh ?_|refine r_alloc rfl rfl rfl (by first|exact aggL|fail) (fun _ => ?_)|refine rSt rfl rfl rfl rfl rfl rfl rfl (by repeat constructor) (by rfl) ?_|refine c_dec_t rfl (by first|omega|fail) ?_|refine cBl ?_|refine cSk ?_|fail)
   refine cSq ?_
   repeat (first|refine lVa rfl rfl (v_shrU (n := k) rfl rfl (by omega)) ?_|refine lVa rfl rfl (v_andU rfl rfl) ?_|refine lVa rfl rfl (v_lenG (tt := tt) rfl rfl) ?_|refine lVa rfl rfl (by first|exact v_add rfl rfl (by omega) (by omega)|exact pEv rfl|exact vLd rfl (by repeat constructor) rfl (by rfl)|exact v_build rfl rfl (by rfl)|fail) ?_|refine lNi ?_|refine cRg ?_|refine cSq ?_|refine xTh ?_|refine r_buildSlice rfl rfl rfl rfl rfl rfl (by rfl) (fun _ => ?_)|refine c_dec_f rfl (by first|omega|fail) ?_|refine cSk ?_|fail)
   rw [lP]
   refine r_appendZ (f := pE) (e := 34) (sz := 19) (xs := ps) (ys := [(((nc : Nat) : Int) + 1, s.id)]) (m := 1) rfl rfl rfl rfl rfl rfl rfl (.inr ⟨_, 0, rfl, news_own (by repeat constructor)⟩) (pm2 (X := [_, _])) (g2' ()) pE_rows rfl rfl (by omega) (by unfold maxLen; omega) (fun bs8 cs8 rs8 hs8 => ?_)
   have hs8' := fun (_ : Unit) => hs8
   clear hs8
   refine l_perm (pm2 (X := [_, _])).symm ?_
   simp only [List.cons_append, List.nil_append]
   repeat (first|refine lVa rfl rfl (by first|exact pEv rfl|fail) ?_|refine r_buildSlice rfl rfl rfl rfl rfl rfl (by rfl) (fun _ => ?_)|fail)
   refine r_appendZ (f := inE) (e := 3) (sz := 1) (xs := ids) (ys := [((nc : Nat) : Int) + 1]) (m := 1) rfl rfl rfl rfl rfl rfl rfl (.inr ⟨_, 0, rfl, news_own (by repeat constructor)⟩) (pm3 (X := [_, _, _])) (g3' ()) inE_rows rfl rfl (by omega) (by unfold maxLen; omega) (fun bi8 ci8 ri8 hi8 => ?_)
   have hi8' := fun (_ : Unit) => hi8
   clear hi8
   refine l_perm (pm3 (X := [_, _, _])).symm ?_
   simp only [List.cons_append, List.nil_append]
   by_cases hm : s.mark = 1
   ·have he : isE s = true := decide_eq_true hm
    rw [he, if_pos rfl] at eD
    repeat ((fail_if_success refine c_probe (id := 16) ?_); (fail_if_success refine c_probe1 (id := 16) ?_); first|refine lVa rfl rfl (by first|exact pEv rfl|exact vLd rfl (by repeat constructor) rfl (by rfl)|fail) ?_|refine lNi ?_|refine cRg ?_|refine cSq ?_|refine xTh ?_|refine r_buildSlice rfl rfl rfl rfl rfl rfl (by rfl) (fun _ => ?_)|refine c_dec_t rfl (by first|omega|fail) ?_|fail)
    skip
    refine r_appendZ (f := inE) (e := 3) (sz := 1) (xs := D) (ys := [s.id]) (m := 1) rfl rfl rfl rfl rfl rfl rfl (.inr ⟨_, 0, rfl, news_own (by repeat constructor)⟩) (pm4 (X := [_, _, _, _])) (g4' ()) inE_rows rfl rfl (by omega) (by unfold maxLen; omega) (fun bd8 cd8 rd8 hd8 => ?_)
    have hd8' := fun (_ : Unit) => hd8
    clear hd8
    refine l_perm (pm4 (X := [_, _, _, _])).symm ?_
    simp only [List.cons_append, List.nil_append]
    repeat ((fail_if_success refine c_probe (id := 17) ?_); (fail_if_success refine c_probe1 (id := 17) ?_); first|refine lVa rfl rfl (by first|exact v_add rfl rfl (by omega) (by omega)|exact pEv rfl|fail) ?_|refine lNi ?_|refine cRg ?_|refine xTh ?_|refine x_block ?_|fail)
    refine x_back ⟨k + 1, bk, ck, rk, bs8, cs8, rs8, bi8, ci8, ri8, bd8, cd8, rd8⟩ ⟨hlt, by simp only; rw [eK]; exact g1' (), by simp only; rw [eP]; exact hs8' (), by simp only; rw [eI]; exact hi8' (), by simp only; rw [eD]; exact hd8' ()⟩ (by simp only; omega) ?_ ?_
    ·simp only; rw [eK, eI, eD, eP]; exact (by repeat (first|exact .nil|refine .cons rfl (by first|rfl|(congr 1; done)|exact congrArg _ (by omega)|(simp; done)) ?_))
    ·simp only; rw [eK, eI, eD, eP]; exact .drop (.drop (.drop (.drop (.refl _))))
   ·have he : isE s = false := decide_eq_false hm
    rw [he, if_neg (by decide), List.append_nil] at eD
    repeat ((fail_if_success refine c_probe (id := 17) ?_); (fail_if_success refine c_probe1 (id := 17) ?_); first|refine lVa rfl rfl (by first|exact v_add rfl rfl (by omega) (by omega)|exact pEv rfl|exact vLd rfl (by repeat constructor) rfl (by rfl)|fail) ?_|refine lNi ?_|refine cRg ?_|refine cSq ?_|refine xTh ?_|refine c_dec_f rfl (by first|omega|fail) ?_|refine cSk ?_|refine x_block ?_|fail)
    refine x_back ⟨k + 1, bk, ck, rk, bs8, cs8, rs8, bi8, ci8, ri8, bd, cd, rd⟩ ⟨hlt, by simp only; rw [eK]; exact g1' (), by simp only; rw [eP]; exact hs8' (), by simp only; rw [eI]; exact hi8' (), by simp only; rw [eD]; exact g4' ()⟩ (by simp only; omega) ?_ ?_
    ·simp only; rw [eK, eI, eD, eP]; exact (by repeat (first|exact .nil|refine .cons rfl (by first|rfl|(congr 1; done)|exact congrArg _ (by omega)|(simp; done)) ?_))
    ·simp only; rw [eK, eI, eD, eP]; exact .drop (.drop (.drop (.refl _)))
 rw [List.take_of_length_le (by omega)] at g1 g2 g3 g4 ⊢
 have hk7 := kk ⟨n, bk, ck, rk, bs, cs, rs, bi, ci, ri, bd, cd, rd⟩ g1 g2 g3 g4
 clear kk g1 g2 g3 g4 hA
 repeat ((fail_if_success refine c_probe (id := 18) ?_); (fail_if_success refine c_probe1 (id := 18) ?_); first|refine lVa rfl rfl (by first|exact pEv rfl|fail) ?_|refine lNi ?_|refine cRg ?_|refine cSq ?_|refine xTh ?_|refine c_dec_f rfl (by first|omega|fail) ?_|refine c_exit ?_|refine xTe ?_|refine xBs ?_|fail)
 refine c_keep [0, 2, 3, 4, 5, 6, 15, 16, 17, 18] rfl ?_
 exact hk7
end R41
end Go.Proofs

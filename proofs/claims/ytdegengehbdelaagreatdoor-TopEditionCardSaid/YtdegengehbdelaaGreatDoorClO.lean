/- Collating: Table, in the program. -/
import Derived.Test.YtdegengehbdelaaGreatDoorSeG
set_option maxRecDepth 100000
set_option maxHeartbeats 400000000
set_option linter.unusedSectionVars false
set_option linter.unusedVariables false
set_option linter.unusedSimpArgs false
namespace Go.Proofs
open Go.RowKit Go.Kin Go.Kin.Cl
namespace R41
theorem wiE_len (ws : List Wi) : ∀ r ∈ ws.map wiE, r ≠ [] := fun r hr => by obtain ⟨x, _, rfl⟩ := List.mem_map.1 hr; simp
theorem Fr.ar {w w' : World} {A : Option Addr} {sz : Nat} {rows : List (List Value)} (h : Fr w w' A sz rows) (hne : ∀ r ∈ rows, r ≠ []) {ks : List Nat} (hks : ∀ k ∈ ks, k < w.heap.size) : Ar w' (allBut w' ks) A sz rows := fun i r hr => by
 obtain ⟨b, o, e, hc⟩ := h.at' i r hr
 cases r with
 | nil => exact absurd rfl (hne [] (List.mem_of_getElem? hr))
 | cons x cs =>
  have he := ext_of hc
  refine ⟨b, o, e, ⟨⟨he.dom, fun hb => ?_⟩, he.cell⟩⟩
  have h1 := hks b hb
  have h2 := h.new _ e (fun h0 => by rw [h0] at hr; simp at hr)
  have h3 : w.heap.size <= b := h2
  omega
theorem inE_ne (l : List Int) : ∀ r ∈ l.map inE, r ≠ [] := fun r hr => by obtain ⟨x, _, rfl⟩ := List.mem_map.1 hr; simp [inE]
theorem pQ_ne (l : List (Int × Int)) : ∀ r ∈ l.map pQ, r ≠ [] := fun r hr => by obtain ⟨x, _, rfl⟩ := List.mem_map.1 hr; simp [pQ]
def nilV : Value := .slice none 0 0
/-- the ground after some of the pairs have been made -/
structure T1 where
 i : Nat
 W : World
 Ds : List Nat
 f : Nat -> Value
 PA : Nat -> Option Addr
 pc : Nat -> Nat
def T1.mem (ls : List (List Int)) (bx bw bp : Nat) (s : T1) : List (Nat × Obj) :=
 (bx, .cells ⟨[.slice (some ⟨bw, 0, none⟩) ((txt ls).length + 1) ((txt ls).length + 1)]⟩ 30 (0, 0)) :: (bw, .cells ⟨ivec ((txt ls).length + 1) fun k => (wdI ls s.i k : Int)⟩ 3 (0, 0)) :: (bp, .cells ⟨vec ls.length s.f⟩ 62 (0, 0)) :: s.Ds.map opn
def T1.D (ls : List (List Int)) (bx bw bp : Nat) (s : T1) : Nat -> Prop := allBut s.W ((s.mem ls bx bw bp).map (·.1))
structure T1.ok (ls : List (List Int)) (w : World) (TA : Option Addr) (bx bw bp : Nat) (s : T1) : Prop where
 one : 1 <= s.i
 le : s.i <= ls.length
 same : Same (base w) w s.W
 dom : ∀ k, base w k -> s.D ls bx bw bp k
 tx : Ar s.W (s.D ls bx bw bp) TA 1 ((txt ls).map inE)
 sl : ∀ j, j < s.i -> s.f j = .slice (s.PA j) (prI ls j).length (s.pc j)
 ps : ∀ j, j < s.i -> Ar s.W (s.D ls bx bw bp) (s.PA j) 2 ((prI ls j).map pQ)
theorem permT3 {α : Type} (x a b c : α) (l : List α) : (x :: a :: b :: c :: l).Perm (a :: b :: c :: x :: l) := (List.perm_middle (l₁ := [a, b, c]) (a := x) (l₂ := l)).symm
theorem psOK {ls : List (List Int)} (h : Short ls) (i : Nat) : PsOK (li ls i).length (prI ls i) := fun x hx => by
 have := prI_bd x hx
 have h2 := h.txt
 omega
/-- how often a reading has been met -/
def hrI (ls : List (List Int)) (i t : Nat) (k : Nat) : Int := ((sel (li ls i) k ((ysI ls i).take t)).length : Nat)
def wrI (ls : List (List Int)) (i t : Nat) (k : Nat) : Int := max (wdI ls i k : Int) (hrI ls i t k)
theorem hrI_0 {ls : List (List Int)} {i : Nat} : hrI ls i 0 = fun _ => 0 := by funext k; unfold hrI; rw [List.take_zero]; rfl
theorem wrI_0 {ls : List (List Int)} {i : Nat} : wrI ls i 0 = fun k => (wdI ls i k : Int) := by funext k; unfold wrI; rw [hrI_0]; simp only; omega
theorem hrI_succ {ls : List (List Int)} {i t : Nat} {y : Int × Int} (h : (ysI ls i)[t]? = some y) : iset (hrI ls i t) y.1.toNat (hrI ls i t y.1.toNat + 1) = hrI ls i (t + 1) := by
 have hb := ysI_bd y (List.mem_of_getElem? h)
 funext k
 unfold iset hrI
 rw [sel_take_succ h]
 by_cases e : k = y.1.toNat
 ·rw [if_pos e, if_pos (by omega), List.length_append, e]; simp
 ·rw [if_neg e, if_neg (by omega), List.append_nil]
theorem wrI_succ {ls : List (List Int)} {i t : Nat} {y : Int × Int} (h : (ysI ls i)[t]? = some y) : iset (wrI ls i t) y.1.toNat (max (wrI ls i t y.1.toNat) (hrI ls i (t + 1) y.1.toNat)) = wrI ls i (t + 1) := by
 have h2 := hrI_succ h
 funext k
 unfold iset wrI
 by_cases e : k = y.1.toNat
 ·have h3 := congrFun h2 k
  unfold iset at h3
  rw [if_pos e] at h3
  rw [if_pos e, <- e, <- h3, e]
  omega
 ·have h3 := congrFun h2 k
  unfold iset at h3
  rw [if_neg e] at h3
  rw [if_neg e, h3]
theorem wrI_end {ls : List (List Int)} {i : Nat} : wrI ls i (ysI ls i).length = fun k => (wdI ls (i + 1) k : Int) := by
 funext k
 unfold wrI hrI
 rw [List.take_length, wdI]
 show max (wdI ls i k : Int) ((sgI ls i k).length : Int) = _
 omega
theorem hrI_bd {ls : List (List Int)} (hS : Short ls) (i t k : Nat) : 0 <= hrI ls i t k /\ hrI ls i t k <= 128 := by
 have h1 := sel_len (li ls i) k ((ysI ls i).take t)
 have h2 := alY_len (prI ls i) 0
 have h3 := prI_len (ls := ls) i
 have h4 := hS i
 have h5 := hS.txt
 have h6 : ((ysI ls i).take t).length <= (ysI ls i).length := by rw [List.length_take]; exact Nat.min_le_right _ _
 unfold ysI at *
 unfold hrI
 unfold ysI
 omega

theorem sel_app (b : List Int) (k : Int) : ∀ l l' : List (Int × Int), sel b k (l ++ l') = sel b k l ++ sel b k l'
 | [], _ => rfl
 | z :: l, l' => by
  rw [List.cons_append, sel, sel, sel_app b k l l']
  split <;> rfl
theorem sel_cnt {ls : List (List Int)} {i t : Nat} {y : Int × Int} (hi : i < ls.length) (h : (ysI ls i)[t]? = some y) : (sel (li ls i) y.1.toNat ((ysI ls i).take t)).length < wd ls y.1.toNat := by
 have h1 := sgI_le (ls := ls) (k := y.1.toNat) hi
 have hb := ysI_bd y (List.mem_of_getElem? h)
 have h2 := sel_take_succ (b := li ls i) h (y.1.toNat : Int)
 rw [if_pos (by omega)] at h2
 have h3 : sgI ls i y.1.toNat = sel (li ls i) y.1.toNat ((ysI ls i).take (t + 1)) ++ sel (li ls i) y.1.toNat ((ysI ls i).drop (t + 1)) := by
  rw [<- sel_app, List.take_append_drop]; rfl
 rw [h3, h2] at h1
 simp only [List.length_append, List.length_cons, List.length_nil] at h1
 omega
theorem perm7 {α : Type} (x y a b c d e : α) (l : List α) : (x :: y :: a :: b :: c :: d :: e :: l).Perm (a :: b :: c :: d :: e :: x :: y :: l) := by
 have h1 := (List.perm_middle (l₁ := [a, b, c, d, e]) (a := y) (l₂ := l)).symm
 have h2 := (List.perm_middle (l₁ := [a, b, c, d, e]) (a := x) (l₂ := y :: l)).symm
 exact (h1.cons x).trans h2
theorem ivec_flatI (n : Nat) (f : Nat -> Int) : ivec n f = flatI ((List.range n).map f) := by rw [flatI_map, List.map_map]; rfl
/-- where the loci begin, as far as reckoned -/
def atF (ls : List (List Int)) (k : Nat) (q : Nat) : Int := if q < k then (atk (wd ls) q : Int) else 0
theorem atF_0 {ls : List (List Int)} : atF ls 0 = fun _ => 0 := by funext q; exact if_neg (by omega)
theorem atF_succ {ls : List (List Int)} (k : Nat) : iset (atF ls k) k (atk (wd ls) k : Int) = atF ls (k + 1) := by
 funext q
 unfold iset atF
 by_cases h : q = k
 ·rw [if_pos h, if_pos (by omega), h]
 ·rw [if_neg h]
  by_cases h2 : q < k
  ·rw [if_pos h2, if_pos (by omega)]
  ·rw [if_neg h2, if_neg (by omega)]
theorem atF_get {ls : List (List Int)} {n k : Nat} (h : k < n) : atF ls n k = (atk (wd ls) k : Int) := if_pos h
theorem loci_eq {ls : List (List Int)} {m : Nat} (hm : (txt ls).length = m) : ((atk (wd ls) (m + 1) : Nat) : Int) - 1 = (lociN ls : Int) := by
 unfold lociN; rw [hm, atk]; omega
theorem wd_bd {ls : List (List Int)} (h : Short ls) (k : Nat) : wd ls k <= 128 := wdI_len h _ k
/-- the rows so far -/
inductive OS where
 | zero
 | more (b c : Nat) (r : List Value)
def flatR (rows : List RV) : List Value := (rows.map rvE).flatten
def OS.sv (n : Nat) : OS -> Value
 | .zero => .slice Option.none 0 0
 | .more b c _ => .slice (Option.some ⟨b, 0, Option.none⟩) n c
def OS.mem (rows : List RV) : OS -> List (Nat × Obj)
 | .zero => []
 | .more b _ r => [(b, .cells ⟨flatR rows ++ r⟩ 30 (0, 0))]
def OS.ok (rows : List RV) : OS -> Prop
 | .zero => rows = []
 | .more _ c r => rows ≠ [] /\ Grow 1 rows.length (flatR rows) c r
/-- a row's own blocks -/
structure T4 where
 W : World
 LA : Option Addr
 lc : Nat
 b17 : Nat
 b16 : Nat
 br : Nat
/-- a block that is only read from here on -/
theorem Ar.own {w0 : World} {D : Nat -> Prop} {J : (Nat -> Prop) -> World -> Prop} {mem : List (Nat × Obj)} {W : World} (hW : SatW w0 D J mem W) {b : Nat} {rows : List (List Value)} {r : List Value} {T : TypeId} {fr : Nat × Nat} {sz : Nat} {ks : List Nat} (hm : (b, Obj.cells ⟨rows.flatten ++ r⟩ T fr) ∈ mem) (hl : ∀ r ∈ rows, r.length = sz) (hb : b ∉ ks) : Ar W (allBut W ks) (some ⟨b, 0, none⟩) sz rows := fun i cs hi => by
 obtain ⟨b', o', e, hc⟩ := hW.rows hm rfl hl i cs hi
 cases e
 exact ⟨b, 0, rfl, ⟨⟨hW.lt hm, hb⟩, fun j v hv => hc j v hv⟩⟩
theorem Ar.ownH {W : World} {b : Nat} {rows : List (List Value)} {r : List Value} {T : TypeId} {sz : Nat} {ks : List Nat} (h : W.heap[b]? = some (.cells ⟨rows.flatten ++ r⟩ T (0, 0))) (hl : ∀ r ∈ rows, r.length = sz) (hb : b ∉ ks) : Ar W (allBut W ks) (some ⟨b, 0, none⟩) sz rows := by
 have hsat : SatW W (fun _ => False) noJ [(b, .cells ⟨rows.flatten ++ r⟩ T (0, 0))] W :=
  ⟨Same.refl _ _, fun _ h => h.elim, by simp, fun p hp => by rw [List.mem_singleton.1 hp]; exact ⟨id, h⟩, closed_noJ, trivial⟩
 exact Ar.own hsat (b := b) (r := r) (List.mem_singleton.2 rfl) hl hb
structure T3 where
 i : Nat
 W : World
 Ds : List Nat
 rows : List RV
 o : OS
def T3.mem (l5 : List (Nat × Obj)) (s : T3) : List (Nat × Obj) := l5 ++ (s.o.mem s.rows ++ s.Ds.map opn)
def T3.D (l5 : List (Nat × Obj)) (s : T3) : Nat -> Prop := allBut s.W ((s.mem l5).map (·.1))
structure T3.ok (ls : List (List Int)) (w : World) (TA : Option Addr) (PA : Nat -> Option Addr) (l5 : List (Nat × Obj)) (s : T3) : Prop where
 le : s.i <= ls.length
 len : s.rows.length = s.i
 val : s.rows.map RV.l = (List.range s.i).map (rowI ls)
 same : Same (base w) w s.W
 dom : ∀ k, base w k -> s.D l5 k
 tx : Ar s.W (s.D l5) TA 1 ((txt ls).map inE)
 ps : ∀ j, j < ls.length -> Ar s.W (s.D l5) (PA j) 2 ((prI ls j).map pQ)
 rw : ∀ v ∈ s.rows, Ar s.W (s.D l5) v.A 1 (v.l.map inE) /\ ∀ a, v.A = some a -> w.heap.size <= a.block
 out : s.o.ok s.rows

theorem Table_calls (A : Option Addr) (cap : Nat) (ws : List Wi) (w : World) (hA : Kin.At w A 3 (ws.map wiE)) (hx : ∀ x ∈ ws, WiOK w x) (hl : ws.length <= 9223372036854775807) :
  Calls Tryz.prog 6 ⟨[.slice A ws.length cap]⟩ w (TabQ ws w) := by
 refine fEn Tryz.func6 rfl Tryz.ntmps6 rfl rfl (sWn w) ?_
 repeat (first|refine lVa rfl rfl (by first|exact pEv rfl|fail) ?_|refine lNi ?_|refine cRg ?_|refine cSq ?_|refine xTh ?_|fail)
 refine r_call rfl rfl rfl (fun W hW => Check_calls A cap ws W (hA.sat hW) (fun x hxm => (hx x hxm).later hW.below) hl) ?_
 by_cases hc : chkW ws = 0
 rotate_left
 ·obtain ⟨t1, t2⟩ := tab_bad hc
  repeat (first|refine lVa rfl rfl (by first|exact pEv rfl|fail) ?_|refine lNi ?_|refine cRg ?_|refine cSq ?_|refine xTh ?_|refine l_skip rfl rfl ?_|refine c_true rfl ?_|refine c_ret ?_|refine xTr ?_|refine l_dec_t rfl rfl rfl rfl rfl (by first|omega|fail) ?_|fail)
  exact x_ret rfl rfl (by repeat constructor) rfl (fun W hW => ⟨none, 0, [], by rw [t1]; rfl, hW.below, by rw [t2]; rfl, rowsF_nil⟩)
 rw [hc]
 by_cases hne : ws = []
 ·subst hne
  obtain ⟨t1, t2⟩ := tab_nil
  repeat (first|refine lVa rfl rfl (by first|exact pEv rfl|fail) ?_|refine lNi ?_|refine cRg ?_|refine cSq ?_|refine xTh ?_|refine c_true rfl ?_|refine c_ret ?_|refine xTr ?_|fail)
  exact x_ret rfl rfl (by repeat constructor) rfl (fun W hW => ⟨none, 0, [], by rw [t1]; rfl, hW.below, by rw [t2]; rfl, rowsF_nil⟩)
 have hpos : 1 <= ws.length := by cases ws with | nil => exact absurd rfl hne | cons x l => simp
 obtain ⟨x0, hx0⟩ : ∃ x0, ws[0]? = some x0 := ⟨_, List.getElem?_eq_getElem hpos⟩
 have h24 := (chkW_0 hc).1
 have hsh := short_lsW hc
 obtain ⟨ls, hls⟩ : ∃ ls, lsW ws = ls := ⟨_, rfl⟩
 have hlsl : ls.length = ws.length := by rw [<- hls]; exact List.length_map ..
 have hli : Hid (∀ i x, ws[i]? = some x -> li ls i = cds x) := Lib.hid fun i x h => by rw [<- hls]; exact li_lsW h
 have hin : Hid (∀ i x, ws[i]? = some x -> (cds x).all isC = true /\ (∀ c ∈ cds x, c ≠ 0 /\ -9223372036854775808 <= c /\ c <= 9223372036854775807) /\ (cds x).length <= 64) := Lib.hid fun i x h => cds_in hc (List.mem_of_getElem? h)
 have hwi : Hid (∀ x ∈ ws, WiOK w x) := Lib.hid hx
 rw [hls] at hsh
 have htx : txt ls = cds x0 := by rw [<- li_0, hli.out 0 x0 hx0]
 have htl := hsh.txt
 obtain ⟨m, hm⟩ : ∃ m, (txt ls).length = m := ⟨_, rfl⟩
 rw [hm] at htl
 have hm0 : (cds x0).length = m := by rw [<- htx, hm]
 clear hx
 obtain ⟨bA, oA, rfl, e0⟩ := ext_at hA hx0
 have g0 : Ext w (base w) bA (oA + (0 : Int).toNat * 3) (wiE x0) := ext_of e0
 have hrl : ∀ {i : Nat} {x : Wi}, ws[i]? = some x -> x.rs.length <= 100000 := fun {i x} h => by have := (hin.out i x h).2.2; rw [cds_len] at this; omega
 repeat (first|refine lVa rfl rfl (by first|exact pEv rfl|exact vL0 rfl (by assumption) rfl (by rfl)|exact v_index rfl rfl rfl rfl (by omega) (by omega) (by with_reducible first|exact idx8 _ _ _|fail)|fail) ?_|refine lNi ?_|refine cRg ?_|refine cSq ?_|refine xTh ?_|refine c_dec_f rfl (by first|omega|fail) ?_|refine cSk ?_|fail)
 refine l_callF (ι := Option Addr × Nat) (v := fun q => .slice q.1 m q.2) (mem' := []) (fun q W W' => Fr W W' q.1 1 ((txt ls).map inE)) rfl rfl rfl (by repeat (first|exact .nil|refine .keep (by first|rfl|assumption) ?_|refine .drop ?_|exact MSub.refl _)) (fun W hW => ?_) ?_
 ·refine (codes_calls x0 W ((hwi.out x0 (List.mem_of_getElem? hx0)).later hW.below) (hrl hx0)).mono fun e W' h => ?_
  obtain ⟨A', c', h1, h2, h3⟩ := RowQ.fr h
  exact ⟨(A', c'), by rw [<- hm0]; exact h1, h2, by rw [htx]; exact h3⟩
 rintro ⟨TA, tc⟩ W W1 hW hB1 hW1 hq
 simp only at hq ⊢
 have hS1 : Same (base w) w W1 := hW1.same
 have hD1 : ∀ k, base w k -> allBut W1 (List.map (fun p => p.1) ([] : List (Nat × Obj))) k := hW1.allBut (MSub.refl _)
 have tx1 : Ar W1 (allBut W1 (List.map (fun p => p.1) ([] : List (Nat × Obj)))) TA 1 ((txt ls).map inE) := hq.ar (inE_ne _) (by simp)
 clear hq hW hB1 hW1 g0 e0
 repeat (first|refine lVa rfl rfl (by first|exact pEv rfl|fail) ?_|refine lNi ?_|refine cRg ?_|refine cSq ?_|refine xTh ?_|fail)
 refine r_make (n := ws.length) rfl rfl rfl rfl rfl rfl (by omega) (by omega) (by omega) rfl rfl flat_vec (fun bp => ?_)
 repeat (first|refine lVa rfl rfl (by first|exact v_add rfl rfl (by omega) (by omega)|exact pEv rfl|fail) ?_|refine lNi ?_|refine cRg ?_|refine cSq ?_|refine xTh ?_|fail)
 refine r_make (n := m + 1) rfl rfl rfl rfl rfl rfl (by omega) (by omega) (by omega) rfl rfl flat_int (fun bw => ?_)
 repeat (first|refine lVa rfl rfl (by first|exact pEv rfl|fail) ?_|refine lNi ?_|refine cRg ?_|refine cSq ?_|refine xTh ?_|refine r_alloc rfl rfl rfl (by first|exact aggL|fail) (fun _ => ?_)|refine rSt rfl rfl rfl rfl rfl rfl rfl (by repeat constructor) (by rfl) ?_|refine cBl ?_|fail)
 rename_i bx
 refine c_loopW (ι := T1) (T1.ok ls w TA bx bw bp) (fun s => s.Ds.map Kin.mark) (fun s => s.W) (T1.D ls bx bw bp) (fun _ => noJ)
  (fun s => [(0, .slice (some ⟨bA, oA, none⟩) ws.length cap), (2, .slice none 0 0), (3, .int .i64 0), (4, .slice TA m tc), (5, .slice (some ⟨bp, 0, none⟩) ws.length ws.length), (6, .pointer (some ⟨bx, 0, none⟩)), (7, .int .i64 s.i)])
  (T1.mem ls bx bw bp) (fun s => ws.length - s.i) (fun a0 W ha hmm => ?_) ?_
 ·have hz : (fun _ => (0 : Int)) = fun k => (wdI ls 1 k : Int) := by funext k; rw [wdI_1]; rfl
  rw [hz] at hmm
  have hM : MSub ((bx, Obj.cells ⟨[.slice (some ⟨bw, 0, none⟩) (m + 1) (m + 1)]⟩ 30 (0, 0)) :: (bw, .cells ⟨ivec (m + 1) fun k => (wdI ls 1 k : Int)⟩ 3 (0, 0)) :: (bp, .cells ⟨vec ws.length fun _ => .slice none 0 0⟩ 62 (0, 0)) :: []) (T1.mem ls bx bw bp ⟨1, W, [], fun _ => nilV, fun _ => none, fun _ => 0⟩) := by
   unfold T1.mem; rw [hm, hlsl]; exact MSub.refl _
  have hD := hmm.allBut hM
  refine ⟨⟨1, W, [], fun _ => nilV, fun _ => none, fun _ => 0⟩, ⟨Nat.le_refl _, by simp only; omega, hS1.trans (hmm.same.mono hD1), fun k hk => hD k (hD1 k hk), tx1.move hmm.same hD, fun j hj => ?_, fun j hj => ?_⟩, (show EnvSub _ [(0, .slice (some ⟨bA, oA, none⟩) ws.length cap), (2, .slice none 0 0), (3, .int .i64 0), (4, .slice TA m tc), (5, .slice (some ⟨bp, 0, none⟩) ws.length ws.length), (6, .pointer (some ⟨bx, 0, none⟩)), (7, .int .i64 ((1 : Nat) : Int))] from (by repeat (first|exact .nil|refine .cons rfl (by first|rfl|(congr 1; done)|exact congrArg _ (by omega)|(simp; done)) ?_))).sat ha, hmm.fresh0 hM⟩
  ·have : j = 0 := by simp only at hj; omega
   subst this; rw [prI_0]; rfl
  ·have : j = 0 := by simp only at hj; omega
   subst this; rw [prI_0]; exact Ar.nil
 rintro ⟨i, W2, Ds, f, PA, pc⟩ ⟨i1, i2, i3, i4, i5, i6, i7⟩
 simp only at i1 i2 i3 i4 i5 i6 i7
 generalize hD2 : T1.D ls bx bw bp ⟨i, W2, Ds, f, PA, pc⟩ = D at *
 show RunC _ _ ⟨_, _, Ds.map Kin.mark, W2, D, noJ⟩ _ _ [(0, .slice (some ⟨bA, oA, none⟩) ws.length cap), (2, .slice none 0 0), (3, .int .i64 0), (4, .slice TA m tc), (5, .slice (some ⟨bp, 0, none⟩) ws.length ws.length), (6, .pointer (some ⟨bx, 0, none⟩)), (7, .int .i64 i)] ((bx, .cells ⟨[.slice (some ⟨bw, 0, none⟩) ((txt ls).length + 1) ((txt ls).length + 1)]⟩ 30 (0, 0)) :: (bw, .cells ⟨ivec ((txt ls).length + 1) fun k => (wdI ls i k : Int)⟩ 3 (0, 0)) :: (bp, .cells ⟨vec ls.length f⟩ 62 (0, 0)) :: Ds.map opn)
 rw [hm, hlsl]
 by_cases hlt : i < ws.length
 ·obtain ⟨x, hwx⟩ : ∃ x, ws[i]? = some x := ⟨_, List.getElem?_eq_getElem hlt⟩
  have hlx : li ls i = cds x := hli.out i x hwx
  obtain ⟨c1, c2, c3⟩ := hin.out i x hwx
  obtain ⟨c4, c5, c6⟩ := hin.out 0 x0 hx0
  have hi0 : i ≠ 0 := by omega
  have hpr : prI ls i = pairL (txt ls) (cds x) := by rw [prI_s hi0, hlx]; rfl
  obtain ⟨b', o', hA', gx⟩ := (Ar.of hA (wiE_len ws) i3 i4).get hwx
  cases hA'
  repeat (first|refine lVa rfl rfl (by first|exact pEv rfl|exact vL0 rfl (by assumption) rfl (by rfl)|exact v_index rfl rfl rfl rfl (by omega) (by omega) (by with_reducible first|exact idx4 _ _ _|fail)|fail) ?_|refine lNi ?_|refine cRg ?_|refine cSq ?_|refine xTh ?_|refine c_dec_t rfl (by first|omega|fail) ?_|refine cBl ?_|refine cSk ?_|fail)
  refine l_callF (ι := Option Addr × Nat) (v := fun q => .slice q.1 (cds x).length q.2) (fun q W W' => Fr W W' q.1 1 ((cds x).map inE)) rfl rfl rfl (MSub.refl _) (fun W hW => ?_) ?_
  ·refine (codes_calls x W ((hwi.out x (List.mem_of_getElem? hwx)).later (i3.trans (hW.same.mono i4)).base_later) (hrl hwx)).mono fun e W' h => ?_
   obtain ⟨A', c', h1, h2, h3⟩ := RowQ.fr h
   exact ⟨(A', c'), h1, h2, h3⟩
  rintro ⟨LA, lc⟩ W W3 hW hB3 hW3 hq
  refine l_gen fun D3 hD3 => ?_
  simp only at hq ⊢
  have hS3 := hW3.same
  have hDD : ∀ k, D k -> D3 k := by rw [hD3]; exact hW3.allBut (MSub.refl _)
  have b3 : Ar W3 D3 LA 1 ((cds x).map inE) := by rw [hD3]; exact hq.ar (inE_ne _) (SatW.lts hW)
  have j3 := i3.trans (hS3.mono i4)
  have j4 : ∀ k, base w k -> D3 k := fun k hk => hDD k (i4 k hk)
  have j5 := i5.move hS3 hDD
  have j7 := fun j hj => (i7 j hj).move hS3 hDD
  clear hq hW hB3 hW3 gx i3 i4 i5 i7 hS3 hDD hD2
  skip
  refine l_callF (ι := Option Addr × Nat) (v := fun q => .tuple ⟨[.int .i64 (ac (txt ls) (cds x)), .slice q.1 (prI ls i).length q.2, .int .i64 0]⟩) (fun q W W' => Fr W W' q.1 2 ((prI ls i).map pQ)) rfl rfl rfl (MSub.refl _) (fun W hW => ?_) ?_
  ·have hcall := Pair_calls (txt ls) (cds x) TA LA tc lc W (by omega) (by omega) (by rw [htx]; exact fun c hc => (c5 c hc).2) (fun c hc => (c2 c hc).2) (j5.at hW) (b3.at hW)
   rw [hm] at hcall
   refine hcall.mono fun e W' h => ?_
   obtain ⟨A', c', h1, h2, h3⟩ := PairQ.fr h
   rw [parA_ok (by omega) c3 (by rw [htx]; exact c4) c1] at h1 h3
   exact ⟨(A', c'), by rw [hpr]; exact h1, h2, by rw [hpr]; exact h3⟩
  rintro ⟨P, pcp⟩ W W4 hW hB4 hW4 hq
  refine l_gen fun D4 hD4 => ?_
  simp only at hq ⊢
  have hS4 := hW4.same
  have hDD : ∀ k, D3 k -> D4 k := by rw [hD4]; exact hW4.allBut (MSub.refl _)
  have p4 : Ar W4 D4 P 2 ((prI ls i).map pQ) := by rw [hD4]; exact hq.ar (pQ_ne _) (SatW.lts hW)
  have q3 := j3.trans (hS4.mono j4)
  have q4 : ∀ k, base w k -> D4 k := fun k hk => hDD k (j4 k hk)
  have q5 := j5.move hS4 hDD
  have q7 := fun j hj => (j7 j hj).move hS4 hDD
  clear hq hW hB4 hW4 j3 j4 j5 j7 hS4 hDD b3 hD4 hD3
  repeat (first|refine lVa rfl rfl (by first|exact pEv rfl|exact v_index rfl rfl rfl rfl (by omega) (by omega) (by with_reducible first|exact idx1 _|fail)|fail) ?_|fail)
  refine r_store_at rfl rfl rfl rfl rfl rfl (by repeat constructor) (by rw [vec_length]; omega) vec_set ?_
  have hget : (vec ws.length fun j => if j = i then Value.slice P (prI ls i).length pcp else f j)[i]? = some (.slice P (prI ls i).length pcp) := by rw [vec_get hlt, if_pos rfl]
  repeat (first|refine lVa rfl rfl (by first|exact v_add rfl rfl (by omega) (by omega)|exact pEv rfl|fail) ?_|refine lNi ?_|refine cRg ?_|refine cSq ?_|refine xTh ?_|fail)
  refine r_make (n := m + 1) rfl rfl rfl rfl rfl rfl (by omega) (by omega) (by omega) rfl rfl flat_int (fun bh => ?_)
  repeat (first|refine lVa rfl rfl (by first|exact pEv rfl|exact v_index rfl rfl rfl rfl (by omega) (by omega) (by with_reducible first|exact idx1 _|fail)|exact v_load_at rfl (by repeat constructor) rfl rfl (by first|assumption|fail)|fail) ?_|refine lNi ?_|refine cRg ?_|refine cSq ?_|refine xTh ?_|refine r_alloc rfl rfl rfl (by first|exact aggL|fail) (fun _ => ?_)|refine rSt rfl rfl rfl rfl rfl rfl rfl (by repeat constructor) (by rfl) ?_|fail)
  rename_i bhx
  refine r_call1 (ι := Nat) (bk := fun b => b) rfl rfl rfl (fun W hW => alone_calls _ W) (fun b5 => ?_)
  repeat (first|refine lNi ?_|refine xTh ?_|refine cBl ?_|fail)
  have e1 : Obj.cells ⟨ivec (m + 1) fun _ => 0⟩ 3 (0, 0) = Obj.cells ⟨ivec (m + 1) (hrI ls i 0)⟩ 3 (0, 0) := by rw [hrI_0]
  have e2 : Obj.cells ⟨ivec (m + 1) fun k => (wdI ls i k : Int)⟩ 3 (0, 0) = Obj.cells ⟨ivec (m + 1) (wrI ls i 0)⟩ 3 (0, 0) := by rw [wrI_0]
  have hlen1 : (prI ls i).length <= 100000 := by have := prI_len (ls := ls) i; have := hsh i; omega
  refine c_range yE (ysI ls i) (fun k => D4 k ∨ k = b5) [(b5, .cells ⟨[.slice P (prI ls i).length pcp]⟩ 62 (0, 0))] (ι := Nat) id (fun t => t <= (ysI ls i).length)
   (fun t => (bhx, .cells ⟨[.slice (some ⟨bh, 0, none⟩) (m + 1) (m + 1)]⟩ 30 (0, 0)) :: (bh, .cells ⟨ivec (m + 1) (hrI ls i t)⟩ 3 (0, 0)) :: (bx, .cells ⟨[.slice (some ⟨bw, 0, none⟩) (m + 1) (m + 1)]⟩ 30 (0, 0)) :: (bw, .cells ⟨ivec (m + 1) (wrI ls i t)⟩ 3 (0, 0)) :: (bp, .cells ⟨vec ws.length fun j => if j = i then Value.slice P (prI ls i).length pcp else f j⟩ 62 (0, 0)) :: Ds.map opn)
   (fun _ _ => False) 0 rfl (fun W W1 hW hs => ?_) (fun b hb => hb.imp id fun e => by simp [e]) (fun _ _ => rfl) (by decide) rfl (Nat.zero_le _) (.keep rfl (.keep rfl (.keep e1 (.keep rfl (.keep e2 (.keep rfl (MSub.refl _)))))))
   (env' := [(6, .pointer (some ⟨bx, 0, none⟩)), (8, .pointer (some ⟨bhx, 0, none⟩))]) (by repeat (first|exact .nil|refine .cons rfl (by first|rfl|(congr 1; done)|exact congrArg _ (by omega)|(simp; done)) ?_)) ?_ ?_ (fun _ _ _ h => h.elim)
  ·have hW1 := hW.any hs
   refine alone_it _ (prI ls i) P pcp (li ls i).length b5 W1 (.inr rfl) ?_ (hW1.own (b5, _) (by repeat constructor)).2 (p4.move hW1.same fun k hk => .inl hk) (psOK hsh i) (by have := hsh i; omega) hlen1
   rintro k (hk | rfl)
   ·exact Nat.lt_of_lt_of_le (hW1.dom k hk) hW1.same.size
   ·exact hW1.lt (p := (k, _)) (by repeat constructor)
  ·rintro t hI hk n lp W5 hW5 hDl hol
   simp only [id] at hk ⊢
   obtain ⟨y, hy1⟩ : ∃ y, (ysI ls i)[t] = y := ⟨_, rfl⟩
   have hy : (ysI ls i)[t]? = some y := by rw [List.getElem?_eq_getElem hk, hy1]
   rw [hy1]
   obtain ⟨y1, y2, y3, y4⟩ := ysI_bd y (List.mem_of_getElem? hy)
   rw [hm] at y2
   have hb1 := hrI_bd hsh i t y.1.toNat
   repeat (first|refine lVa rfl rfl (by first|exact pEv rfl|fail) ?_|refine lNi ?_|refine cRg ?_|fail)
   refine x_body hW5 hDl hol (fun n2 W6 r hW6 hr2 ho => ?_)
   repeat (first|refine lVa rfl rfl (by first|exact v_add rfl rfl (by omega) (by omega)|exact pEv rfl|exact vLd rfl (by repeat constructor) rfl (by rfl)|exact v_index rfl rfl rfl rfl (by omega) (by omega) (by with_reducible first|exact idx5 _|fail)|exact v_load_at rfl (by repeat constructor) rfl rfl (by first|exact ivec_get (by omega)|fail)|fail) ?_|refine lNi ?_|refine cRg ?_|refine cSq ?_|refine xTh ?_|refine r_store_at rfl rfl rfl rfl rfl rfl (by repeat constructor) (by first|(rw [ivec_length]; omega)|fail) (by first|exact ivec_set|fail) ?_|refine cBl ?_|refine x_block ?_|refine c_cut rfl (by decide +kernel) ?_|refine h_val rfl rfl (by first|exact pEv rfl|exact vLd rfl (by repeat constructor) rfl (by rfl)|exact v_index rfl rfl rfl rfl (by omega) (by omega) (by with_reducible first|exact idx5 _|fail)|exact v_load_at rfl (by repeat constructor) rfl rfl (by first|exact ivec_get (by omega)|fail)|fail) ?_|refine h_do1 rfl (by decide +kernel) (by decide +kernel) rfl rfl (by first|exact d_store_at rfl rfl rfl rfl rfl (by repeat constructor) (by first|(rw [ivec_length]; omega)|fail) (by first|exact ivec_set|fail)|fail) ?_|fail)
   rw [hrI_succ hy, wrI_succ hy]
   exact x_next (t + 1) rfl hk (MSub.refl _)
  ·rintro B t hk hI
   have ht : t = (ysI ls i).length := hk
   subst ht
   rw [wrI_end]
   repeat (first|refine lVa rfl rfl (by first|exact v_add rfl rfl (by omega) (by omega)|exact pEv rfl|fail) ?_|refine lNi ?_|refine cRg ?_|refine xTh ?_|refine x_block ?_|fail)
   refine x_backW fun a0 W ha hmm => ?_
   have hM : MSub ((B, Obj.deferred (some [])) :: ([(b5, Obj.cells ⟨[.slice P (prI ls i).length pcp]⟩ 62 (0, 0))] ++ ((bhx, Obj.cells ⟨[.slice (some ⟨bh, 0, none⟩) (m + 1) (m + 1)]⟩ 30 (0, 0)) :: (bh, .cells ⟨ivec (m + 1) (hrI ls i (ysI ls i).length)⟩ 3 (0, 0)) :: (bx, .cells ⟨[.slice (some ⟨bw, 0, none⟩) (m + 1) (m + 1)]⟩ 30 (0, 0)) :: (bw, .cells ⟨ivec (m + 1) fun k => (wdI ls (i + 1) k : Int)⟩ 3 (0, 0)) :: (bp, .cells ⟨vec ws.length fun j => if j = i then Value.slice P (prI ls i).length pcp else f j⟩ 62 (0, 0)) :: Ds.map opn)))
     ((B, Obj.deferred (some [])) :: (bx, Obj.cells ⟨[.slice (some ⟨bw, 0, none⟩) (m + 1) (m + 1)]⟩ 30 (0, 0)) :: (bw, .cells ⟨ivec (m + 1) fun k => (wdI ls (i + 1) k : Int)⟩ 3 (0, 0)) :: (bp, .cells ⟨vec ws.length fun j => if j = i then Value.slice P (prI ls i).length pcp else f j⟩ 62 (0, 0)) :: Ds.map opn) := .keep rfl (.drop (.drop (.drop (MSub.refl _))))
   have hm2 := (hmm.mono hM.sub).perm (permT3 _ _ _ _ _)
   have hmem : T1.mem ls bx bw bp ⟨i + 1, W, B :: Ds, fun j => if j = i then Value.slice P (prI ls i).length pcp else f j, fun j => if j = i then P else PA j, fun j => if j = i then pcp else pc j⟩ = (bx, Obj.cells ⟨[.slice (some ⟨bw, 0, none⟩) (m + 1) (m + 1)]⟩ 30 (0, 0)) :: (bw, .cells ⟨ivec (m + 1) fun k => (wdI ls (i + 1) k : Int)⟩ 3 (0, 0)) :: (bp, .cells ⟨vec ws.length fun j => if j = i then Value.slice P (prI ls i).length pcp else f j⟩ 62 (0, 0)) :: (B, Obj.deferred (some [])) :: Ds.map opn := by unfold T1.mem; rw [hm, hlsl]; rfl
   have hDD : ∀ k, D4 k -> T1.D ls bx bw bp ⟨i + 1, W, B :: Ds, fun j => if j = i then Value.slice P (prI ls i).length pcp else f j, fun j => if j = i then P else PA j, fun j => if j = i then pcp else pc j⟩ k := by unfold T1.D; rw [hmem]; exact hm2.allBut (MSub.refl _)
   refine ⟨⟨i + 1, W, B :: Ds, fun j => if j = i then Value.slice P (prI ls i).length pcp else f j, fun j => if j = i then P else PA j, fun j => if j = i then pcp else pc j⟩, ⟨by simp only; omega, by simp only; omega, q3.trans (hmm.same.mono q4), fun k hk => hDD k (q4 k hk), q5.move hmm.same hDD, fun j hj => ?_, fun j hj => ?_⟩, by simp only; omega,
    (show EnvSub _ [(0, .slice (some ⟨bA, oA, none⟩) ws.length cap), (2, .slice none 0 0), (3, .int .i64 0), (4, .slice TA m tc), (5, .slice (some ⟨bp, 0, none⟩) ws.length ws.length), (6, .pointer (some ⟨bx, 0, none⟩)), (7, .int .i64 ((i + 1 : Nat) : Int))] from (by repeat (first|exact .nil|refine .cons rfl (by first|rfl|(congr 1; done)|exact congrArg _ (by omega)|(simp; done)) ?_))).sat ha, by unfold T1.D; rw [hmem]; exact hm2.fresh0 (MSub.refl _)⟩
   ·simp only at hj ⊢
    by_cases hji : j = i
    ·rw [if_pos hji, if_pos hji, if_pos hji, hji]
    ·rw [if_neg hji, if_neg hji, if_neg hji]; exact i6 j (by omega)
   ·simp only at hj ⊢
    by_cases hji : j = i
    ·rw [if_pos hji, hji]; exact p4.move hmm.same hDD
    ·rw [if_neg hji]; exact (q7 j (by omega)).move hmm.same hDD
 have hie : i = ws.length := by omega
 subst hie
 have hwd : (fun k => (wdI ls ws.length k : Int)) = fun k => (wd ls k : Int) := by funext k; unfold wd; rw [hlsl]
 rw [hwd]
 clear hD2 hlt i1 i2 tx1 hS1 hD1 hwd
 repeat (first|refine lVa rfl rfl (by first|exact v_add rfl rfl (by omega) (by omega)|exact pEv rfl|fail) ?_|refine lNi ?_|refine cRg ?_|refine cSq ?_|refine xTh ?_|refine c_dec_f rfl (by first|omega|fail) ?_|refine c_exit ?_|refine xTe ?_|refine xBs ?_|fail)
 refine r_make (n := m + 1) rfl rfl rfl rfl rfl rfl (by omega) (by omega) (by omega) rfl rfl flat_int (fun ba => ?_)
 repeat (first|refine lVa rfl rfl (by first|exact pEv rfl|exact vLd rfl (by repeat constructor) rfl (by rfl)|fail) ?_|refine lNi ?_|refine cRg ?_|refine cSq ?_|refine xTh ?_|refine r_alloc rfl rfl rfl (by first|exact aggL|fail) (fun _ => ?_)|refine rSt rfl rfl rfl rfl rfl rfl rfl (by repeat constructor) (by rfl) ?_|refine cBl ?_|fail)
 rename_i bax
 have e1 : Obj.cells ⟨ivec (m + 1) fun _ => 0⟩ 3 (0, 0) = Obj.cells ⟨ivec (m + 1) (atF ls 0)⟩ 3 (0, 0) := by rw [atF_0]
 refine c_loop (ι := Nat) (fun k => k <= m + 1) (fun k => [(0, .slice (some ⟨bA, oA, none⟩) ws.length cap), (2, .slice none 0 0), (3, .int .i64 0), (4, .slice TA m tc), (5, .slice (some ⟨bp, 0, none⟩) ws.length ws.length), (6, .pointer (some ⟨bx, 0, none⟩)), (10, .pointer (some ⟨bax, 0, none⟩)), (11, .int .i64 (atk (wd ls) k : Nat)), (99, .slice (some ⟨bw, 0, none⟩) (m + 1) (m + 1)), (100, .int .i64 ((m + 1 : Nat) : Int)), (101, .int .i64 k)])
  (fun k => (bax, .cells ⟨[.slice (some ⟨ba, 0, none⟩) (m + 1) (m + 1)]⟩ 30 (0, 0)) :: (ba, .cells ⟨ivec (m + 1) (atF ls k)⟩ 3 (0, 0)) :: (bx, .cells ⟨[.slice (some ⟨bw, 0, none⟩) (m + 1) (m + 1)]⟩ 30 (0, 0)) :: (bw, .cells ⟨ivec (m + 1) fun k => (wd ls k : Int)⟩ 3 (0, 0)) :: (bp, .cells ⟨vec ws.length f⟩ 62 (0, 0)) :: Ds.map opn) (fun k => m + 1 - k) 0 (Nat.zero_le _) (by repeat (first|exact .nil|refine .cons rfl (by first|rfl|(congr 1; done)|exact congrArg _ (by omega)|(simp; done)) ?_)) (.keep rfl (.keep e1 (MSub.refl _))) ?_
 intro k hk
 clear e1
 have ha1 := atk_bd (wd_bd hsh) k
 have ha2 := wd_bd hsh k
 by_cases hkm : k < m + 1
 ·have ha : ((atk (wd ls) (k + 1) : Nat) : Int) = (atk (wd ls) k : Int) + ((wd ls k : Int) + 1) := by rw [atk]; omega
  repeat (first|refine lVa rfl rfl (by first|exact v_add rfl rfl (by omega) (by omega)|exact pEv rfl|exact vLd rfl (by repeat constructor) rfl (by rfl)|exact v_index rfl rfl rfl rfl (by omega) (by omega) (by with_reducible first|exact idx1 _|fail)|exact v_load_at rfl (by repeat constructor) rfl rfl (by first|exact ivec_get (by omega)|fail)|fail) ?_|refine lNi ?_|refine cRg ?_|refine cSq ?_|refine xTh ?_|refine r_store_at rfl rfl rfl rfl rfl rfl (by repeat constructor) (by first|(rw [ivec_length]; omega)|fail) (by first|exact ivec_set|fail) ?_|refine c_dec_t rfl (by first|omega|fail) ?_|refine cBl ?_|refine cSk ?_|refine x_block ?_|fail)
  rw [atF_succ]
  exact x_back (k + 1) hkm (by omega) (by repeat (first|exact .nil|refine .cons rfl (by first|rfl|(congr 1; done)|exact congrArg _ (by omega)|(simp; done)) ?_)) (MSub.refl _)
 have hke : k = m + 1 := by omega
 subst hke
 have hL := loci_eq hm
 obtain ⟨Lc, hLc⟩ : ∃ Lc, lociN ls = Lc := ⟨_, rfl⟩
 rw [hLc] at hL
 generalize hat : ((atk (wd ls) (m + 1) : Nat) : Int) = at1 at *
 clear ha2 hk hkm
 by_cases hbig : 256 < Lc
 ·obtain ⟨t1, t2⟩ := tab_wide hc hne (by rw [hls, hLc]; exact hbig)
  repeat (first|refine lVa rfl rfl (by first|exact v_sub rfl rfl (by omega) (by omega)|exact pEv rfl|fail) ?_|refine lNi ?_|refine cRg ?_|refine cSq ?_|refine xTh ?_|refine c_dec_t rfl (by first|omega|fail) ?_|refine c_dec_f rfl (by first|omega|fail) ?_|refine c_ret ?_|refine c_exit ?_|refine xTr ?_|refine xTe ?_|refine xBs ?_|fail)
  exact x_rets (Ds := Ds) rfl rfl (by repeat (first|exact Split.nil|exact Split.all|apply Split.mark|apply Split.keep)) rfl (by repeat constructor) rfl (fun W hW => ⟨none, 0, [], by rw [t1]; rfl, (i3.trans (hW.same.mono i4)).base_later, by rw [t2]; rfl, rowsF_nil⟩)
 obtain ⟨t1, t2⟩ := tab_ok hc hne (by rw [hls, hLc]; omega)
 rw [hls] at t2
 repeat (first|refine lVa rfl rfl (by first|exact v_sub rfl rfl (by omega) (by omega)|exact pEv rfl|fail) ?_|refine lNi ?_|refine cRg ?_|refine cSq ?_|refine xTh ?_|refine c_dec_f rfl (by first|omega|fail) ?_|refine cBl ?_|refine cSk ?_|refine c_exit ?_|refine xTe ?_|refine xBs ?_|fail)
 obtain ⟨l5, hl5⟩ : ∃ l5, [(bax, Obj.cells ⟨[.slice (some ⟨ba, 0, none⟩) (m + 1) (m + 1)]⟩ 30 (0, 0)), (ba, .cells ⟨ivec (m + 1) (atF ls (m + 1))⟩ 3 (0, 0)), (bx, .cells ⟨[.slice (some ⟨bw, 0, none⟩) (m + 1) (m + 1)]⟩ 30 (0, 0)), (bw, .cells ⟨ivec (m + 1) fun k => (wd ls k : Int)⟩ 3 (0, 0)), (bp, .cells ⟨vec ws.length f⟩ 62 (0, 0))] = l5 := ⟨_, rfl⟩
 refine c_loopW (ι := T3) (T3.ok ls w TA PA l5) (fun s => s.Ds.map Kin.mark) (fun s => s.W) (T3.D l5) (fun _ => noJ)
  (fun s => [(0, .slice (some ⟨bA, oA, none⟩) ws.length cap), (2, s.o.sv s.i), (3, .int .i64 0), (4, .slice TA m tc), (5, .slice (some ⟨bp, 0, none⟩) ws.length ws.length), (6, .pointer (some ⟨bx, 0, none⟩)), (10, .pointer (some ⟨bax, 0, none⟩)), (11, .int .i64 Lc), (119, .slice (some ⟨bA, oA, none⟩) ws.length cap), (120, .int .i64 ws.length), (121, .int .i64 s.i)])
  (T3.mem l5) (fun s => ws.length - s.i) (fun a0 W ha hmm => ?_) ?_
 ·have hM : MSub ((bax, Obj.cells ⟨[.slice (some ⟨ba, 0, none⟩) (m + 1) (m + 1)]⟩ 30 (0, 0)) :: (ba, .cells ⟨ivec (m + 1) (atF ls (m + 1))⟩ 3 (0, 0)) :: (bx, .cells ⟨[.slice (some ⟨bw, 0, none⟩) (m + 1) (m + 1)]⟩ 30 (0, 0)) :: (bw, .cells ⟨ivec (m + 1) fun k => (wd ls k : Int)⟩ 3 (0, 0)) :: (bp, .cells ⟨vec ws.length f⟩ 62 (0, 0)) :: Ds.map opn) (T3.mem l5 ⟨0, W, Ds, [], .zero⟩) := by
   unfold T3.mem; rw [<- hl5]; exact MSub.refl _
  have hD := hmm.allBut hM
  exact ⟨⟨0, W, Ds, [], .zero⟩, ⟨Nat.zero_le _, rfl, rfl, i3.trans (hmm.same.mono i4), fun k hk => hD k (i4 k hk), i5.move hmm.same hD, fun j hj => (i7 j (by omega)).move hmm.same hD, fun v hv => (by cases hv), rfl⟩,
   (show EnvSub _ [(0, .slice (some ⟨bA, oA, none⟩) ws.length cap), (2, .slice none 0 0), (3, .int .i64 0), (4, .slice TA m tc), (5, .slice (some ⟨bp, 0, none⟩) ws.length ws.length), (6, .pointer (some ⟨bx, 0, none⟩)), (10, .pointer (some ⟨bax, 0, none⟩)), (11, .int .i64 Lc), (119, .slice (some ⟨bA, oA, none⟩) ws.length cap), (120, .int .i64 ws.length), (121, .int .i64 ((0 : Nat) : Int))] from (by repeat (first|exact .nil|refine .cons rfl (by first|rfl|(congr 1; done)|exact congrArg _ (by omega)|(simp; done)) ?_))).sat ha, hmm.fresh0 hM⟩
 have hL256 : Lc <= 256 := by omega
 clear i3 i4 i5 i7 ha1 hbig hat hL
 rintro ⟨i, W3, Ds, rows, o⟩ ⟨k1, k2, k3, k4, k5, k6, k7, k8, k9⟩
 simp only at k1 k2 k3 k4 k5 k6 k7 k8 k9
 generalize hD3 : T3.D l5 ⟨i, W3, Ds, rows, o⟩ = D at *
 show RunC _ _ ⟨_, _, Ds.map Kin.mark, W3, D, noJ⟩ _ _ [(0, .slice (some ⟨bA, oA, none⟩) ws.length cap), (2, o.sv i), (3, .int .i64 0), (4, .slice TA m tc), (5, .slice (some ⟨bp, 0, none⟩) ws.length ws.length), (6, .pointer (some ⟨bx, 0, none⟩)), (10, .pointer (some ⟨bax, 0, none⟩)), (11, .int .i64 Lc), (119, .slice (some ⟨bA, oA, none⟩) ws.length cap), (120, .int .i64 ws.length), (121, .int .i64 i)] (l5 ++ (o.mem rows ++ Ds.map opn))
 rw [hlsl] at k1 k7
 by_cases hlt : i < ws.length
 rotate_left
 ·have hie : i = ws.length := by omega
  subst hie
  have hro : rows.map RV.l = tabR ws := by rw [t2, k3]
  have hrw : rows ≠ [] := fun h => absurd ((k2.symm.trans (congrArg List.length h) : ws.length = 0)) (by omega)
  cases o with
  | zero => exact absurd k9 hrw
  | more b c r =>
   rw [<- hl5]
   show RunC _ _ ⟨_, _, Ds.map Kin.mark, W3, D, noJ⟩ _ _ [(0, .slice (some ⟨bA, oA, none⟩) ws.length cap), (2, .slice (some ⟨b, 0, none⟩) ws.length c), (3, .int .i64 0), (4, .slice TA m tc), (5, .slice (some ⟨bp, 0, none⟩) ws.length ws.length), (6, .pointer (some ⟨bx, 0, none⟩)), (10, .pointer (some ⟨bax, 0, none⟩)), (11, .int .i64 Lc), (119, .slice (some ⟨bA, oA, none⟩) ws.length cap), (120, .int .i64 ws.length), (121, .int .i64 ws.length)] ((bax, Obj.cells ⟨[.slice (some ⟨ba, 0, none⟩) (m + 1) (m + 1)]⟩ 30 (0, 0)) :: (ba, .cells ⟨ivec (m + 1) (atF ls (m + 1))⟩ 3 (0, 0)) :: (bx, .cells ⟨[.slice (some ⟨bw, 0, none⟩) (m + 1) (m + 1)]⟩ 30 (0, 0)) :: (bw, .cells ⟨ivec (m + 1) fun k => (wd ls k : Int)⟩ 3 (0, 0)) :: (bp, .cells ⟨vec ws.length f⟩ 62 (0, 0)) :: (b, .cells ⟨flatR rows ++ r⟩ 30 (0, 0)) :: Ds.map opn)
   repeat (first|refine lVa rfl rfl (by first|exact pEv rfl|fail) ?_|refine lNi ?_|refine cRg ?_|refine cSq ?_|refine xTh ?_|refine c_dec_f rfl (by first|omega|fail) ?_|refine c_ret ?_|refine c_exit ?_|refine xTe ?_|refine xBs ?_|fail)
   refine x_rets (Ds := Ds) rfl rfl (.keep (.keep (.keep (.keep (.keep (.keep .all)))))) rfl (by repeat constructor) rfl (fun W hW => ?_)
   have hS := k4.trans (hW.same.mono k5)
   refine ⟨some ⟨b, 0, none⟩, c, rows, by first|(rw [t1, k2]; done)|(rw [t1, k2]; rfl), hS.base_later, hro, ⟨?_, fun v hv => ⟨(k8 v hv).1.at hW, fun a e _ => (k8 v hv).2 a e⟩⟩⟩
   have hb := hW.own (b, _) (by repeat constructor)
   have hnb : w.heap.size <= b := Nat.le_of_not_lt fun h => hb.1 (k5 b h)
   exact fr_rows hnb (fun r hr => by obtain ⟨v, _, rfl⟩ := List.mem_map.1 hr; rfl) hb.2
 obtain ⟨x, hwx⟩ : ∃ x, ws[i]? = some x := ⟨_, List.getElem?_eq_getElem hlt⟩
 have hlx : li ls i = cds x := hli.out i x hwx
 obtain ⟨c1, c2, c3⟩ := hin.out i x hwx
 obtain ⟨b', o', hA', gx⟩ := (Ar.of hA (wiE_len ws) k4 k5).get hwx
 cases hA'
 rw [<- hl5]
 simp only [List.cons_append, List.nil_append]
 repeat ((fail_if_success refine c_probe (id := 30) ?_); (fail_if_success refine c_probe1 (id := 30) ?_); first|refine lVa rfl rfl (by first|exact pEv rfl|exact vL0 rfl (by assumption) rfl (by rfl)|exact v_index rfl rfl rfl rfl (by omega) (by omega) (by with_reducible first|exact idx4 _ _ _|fail)|fail) ?_|refine lNi ?_|refine cRg ?_|refine cSq ?_|refine xTh ?_|refine r_alloc rfl rfl rfl (by first|exact aggL|fail) (fun _ => ?_)|refine rSt rfl rfl rfl rfl rfl rfl rfl (by repeat constructor) (by rfl) ?_|refine c_dec_t rfl (by first|omega|fail) ?_|refine cBl ?_|refine cSk ?_|fail)
 refine c_joinW (ι := T4) (fun s => Same (base w) w s.W /\ (∀ k, base w k -> allBut s.W (((s.br, Obj.cells ⟨ivec Lc (fun _ => 0)⟩ 3 (0, 0)) :: (s.b16, .cells ⟨[.slice (some ⟨s.br, 0, none⟩) Lc Lc]⟩ 30 (0, 0)) :: (s.b17, .cells ⟨[.slice s.LA (cds x).length s.lc]⟩ 30 (0, 0)) :: (bax, Obj.cells ⟨[.slice (some ⟨ba, 0, none⟩) (m + 1) (m + 1)]⟩ 30 (0, 0)) :: (ba, .cells ⟨ivec (m + 1) (atF ls (m + 1))⟩ 3 (0, 0)) :: (bx, .cells ⟨[.slice (some ⟨bw, 0, none⟩) (m + 1) (m + 1)]⟩ 30 (0, 0)) :: (bw, .cells ⟨ivec (m + 1) fun k => (wd ls k : Int)⟩ 3 (0, 0)) :: (bp, .cells ⟨vec ws.length f⟩ 62 (0, 0)) :: (o.mem rows ++ Ds.map opn)).map (·.1)) k) /\ Ar s.W (allBut s.W (((s.br, Obj.cells ⟨ivec Lc (fun _ => 0)⟩ 3 (0, 0)) :: (s.b16, .cells ⟨[.slice (some ⟨s.br, 0, none⟩) Lc Lc]⟩ 30 (0, 0)) :: (s.b17, .cells ⟨[.slice s.LA (cds x).length s.lc]⟩ 30 (0, 0)) :: (bax, Obj.cells ⟨[.slice (some ⟨ba, 0, none⟩) (m + 1) (m + 1)]⟩ 30 (0, 0)) :: (ba, .cells ⟨ivec (m + 1) (atF ls (m + 1))⟩ 3 (0, 0)) :: (bx, .cells ⟨[.slice (some ⟨bw, 0, none⟩) (m + 1) (m + 1)]⟩ 30 (0, 0)) :: (bw, .cells ⟨ivec (m + 1) fun k => (wd ls k : Int)⟩ 3 (0, 0)) :: (bp, .cells ⟨vec ws.length f⟩ 62 (0, 0)) :: (o.mem rows ++ Ds.map opn)).map (·.1))) TA 1 ((txt ls).map inE) /\ (∀ j, j < ws.length -> Ar s.W (allBut s.W (((s.br, Obj.cells ⟨ivec Lc (fun _ => 0)⟩ 3 (0, 0)) :: (s.b16, .cells ⟨[.slice (some ⟨s.br, 0, none⟩) Lc Lc]⟩ 30 (0, 0)) :: (s.b17, .cells ⟨[.slice s.LA (cds x).length s.lc]⟩ 30 (0, 0)) :: (bax, Obj.cells ⟨[.slice (some ⟨ba, 0, none⟩) (m + 1) (m + 1)]⟩ 30 (0, 0)) :: (ba, .cells ⟨ivec (m + 1) (atF ls (m + 1))⟩ 3 (0, 0)) :: (bx, .cells ⟨[.slice (some ⟨bw, 0, none⟩) (m + 1) (m + 1)]⟩ 30 (0, 0)) :: (bw, .cells ⟨ivec (m + 1) fun k => (wd ls k : Int)⟩ 3 (0, 0)) :: (bp, .cells ⟨vec ws.length f⟩ 62 (0, 0)) :: (o.mem rows ++ Ds.map opn)).map (·.1))) (PA j) 2 ((prI ls j).map pQ)) /\ (∀ v ∈ rows, Ar s.W (allBut s.W (((s.br, Obj.cells ⟨ivec Lc (fun _ => 0)⟩ 3 (0, 0)) :: (s.b16, .cells ⟨[.slice (some ⟨s.br, 0, none⟩) Lc Lc]⟩ 30 (0, 0)) :: (s.b17, .cells ⟨[.slice s.LA (cds x).length s.lc]⟩ 30 (0, 0)) :: (bax, Obj.cells ⟨[.slice (some ⟨ba, 0, none⟩) (m + 1) (m + 1)]⟩ 30 (0, 0)) :: (ba, .cells ⟨ivec (m + 1) (atF ls (m + 1))⟩ 3 (0, 0)) :: (bx, .cells ⟨[.slice (some ⟨bw, 0, none⟩) (m + 1) (m + 1)]⟩ 30 (0, 0)) :: (bw, .cells ⟨ivec (m + 1) fun k => (wd ls k : Int)⟩ 3 (0, 0)) :: (bp, .cells ⟨vec ws.length f⟩ 62 (0, 0)) :: (o.mem rows ++ Ds.map opn)).map (·.1))) v.A 1 (v.l.map inE) /\ ∀ a, v.A = some a -> w.heap.size <= a.block) /\ Ar s.W (allBut s.W (((s.br, Obj.cells ⟨ivec Lc (fun _ => 0)⟩ 3 (0, 0)) :: (s.b16, .cells ⟨[.slice (some ⟨s.br, 0, none⟩) Lc Lc]⟩ 30 (0, 0)) :: (s.b17, .cells ⟨[.slice s.LA (cds x).length s.lc]⟩ 30 (0, 0)) :: (bax, Obj.cells ⟨[.slice (some ⟨ba, 0, none⟩) (m + 1) (m + 1)]⟩ 30 (0, 0)) :: (ba, .cells ⟨ivec (m + 1) (atF ls (m + 1))⟩ 3 (0, 0)) :: (bx, .cells ⟨[.slice (some ⟨bw, 0, none⟩) (m + 1) (m + 1)]⟩ 30 (0, 0)) :: (bw, .cells ⟨ivec (m + 1) fun k => (wd ls k : Int)⟩ 3 (0, 0)) :: (bp, .cells ⟨vec ws.length f⟩ 62 (0, 0)) :: (o.mem rows ++ Ds.map opn)).map (·.1))) s.LA 1 ((cds x).map inE))
  (fun _ => Ds.map Kin.mark) (fun s => s.W) (fun s => allBut s.W (((s.br, Obj.cells ⟨ivec Lc (fun _ => 0)⟩ 3 (0, 0)) :: (s.b16, .cells ⟨[.slice (some ⟨s.br, 0, none⟩) Lc Lc]⟩ 30 (0, 0)) :: (s.b17, .cells ⟨[.slice s.LA (cds x).length s.lc]⟩ 30 (0, 0)) :: (bax, Obj.cells ⟨[.slice (some ⟨ba, 0, none⟩) (m + 1) (m + 1)]⟩ 30 (0, 0)) :: (ba, .cells ⟨ivec (m + 1) (atF ls (m + 1))⟩ 3 (0, 0)) :: (bx, .cells ⟨[.slice (some ⟨bw, 0, none⟩) (m + 1) (m + 1)]⟩ 30 (0, 0)) :: (bw, .cells ⟨ivec (m + 1) fun k => (wd ls k : Int)⟩ 3 (0, 0)) :: (bp, .cells ⟨vec ws.length f⟩ 62 (0, 0)) :: (o.mem rows ++ Ds.map opn)).map (·.1))) (fun _ => noJ) (fun s => [(0, .slice (some ⟨bA, oA, none⟩) ws.length cap), (2, o.sv i), (3, .int .i64 0), (4, .slice TA m tc), (5, .slice (some ⟨bp, 0, none⟩) ws.length ws.length), (6, .pointer (some ⟨bx, 0, none⟩)), (10, .pointer (some ⟨bax, 0, none⟩)), (11, .int .i64 Lc), (119, .slice (some ⟨bA, oA, none⟩) ws.length cap), (120, .int .i64 ws.length), (121, .int .i64 i), (14, .int .i64 i), (16, .pointer (some ⟨s.b16, 0, none⟩)), (17, .pointer (some ⟨s.b17, 0, none⟩))]) (fun s => (s.br, Obj.cells ⟨ivec Lc (fun _ => 0)⟩ 3 (0, 0)) :: (s.b16, .cells ⟨[.slice (some ⟨s.br, 0, none⟩) Lc Lc]⟩ 30 (0, 0)) :: (s.b17, .cells ⟨[.slice s.LA (cds x).length s.lc]⟩ 30 (0, 0)) :: (bax, Obj.cells ⟨[.slice (some ⟨ba, 0, none⟩) (m + 1) (m + 1)]⟩ 30 (0, 0)) :: (ba, .cells ⟨ivec (m + 1) (atF ls (m + 1))⟩ 3 (0, 0)) :: (bx, .cells ⟨[.slice (some ⟨bw, 0, none⟩) (m + 1) (m + 1)]⟩ 30 (0, 0)) :: (bw, .cells ⟨ivec (m + 1) fun k => (wd ls k : Int)⟩ 3 (0, 0)) :: (bp, .cells ⟨vec ws.length f⟩ 62 (0, 0)) :: (o.mem rows ++ Ds.map opn)) ?_ ?_
 ·rename_i b15
  by_cases hnil : cds x = []
  ·have hcall : ∀ (mem : List (Nat × Obj)) (W : World), SatW W3 D noJ mem W -> Calls Tryz.prog 16 ⟨[.agg ⟨wiE x⟩]⟩ W fun e W' => e = .returned (.slice none 0 0) /\ Below W.heap.size W W' := fun _ W hW => (codes_calls x W ((hwi.out x (List.mem_of_getElem? hwx)).later (k4.trans (hW.same.mono k5)).base_later) (hrl hwx)).mono fun e W' ⟨h1, h2⟩ => by
    rcases h2 with ⟨-, h3⟩ | ⟨h3, -⟩
    ·exact ⟨h3, h1⟩
    ·exact absurd hnil h3
   refine c_new 0 4 [(1, .new 0), (3, .cal (.slice none 0 0)), (4, .new 2), (5, .new 3), (6, .sto 2 0 1), (7, .sto 3 0 1)] [(1,[0]),(3,[]),(4,[2]),(5,[3]),(6,[2]),(7,[3])] [] rfl (by decide +kernel) rfl ?_; repeat (first|refine e_val rfl rfl rfl rfl (by first|exact pEv rfl|fail) ?_|fail)
   refine e_new rfl rfl rfl rfl (n_make (n := Lc) rfl rfl rfl rfl rfl (by omega) (by omega) rfl rfl flat_int) (fun br => ?_)
   repeat (first|refine e_val rfl rfl rfl rfl (by first|exact vLd rfl (by repeat constructor) rfl (by rfl)|fail) ?_|fail)
   refine e_call rfl rfl rfl rfl rfl (fun W hW => hcall _ W hW) ?_
   repeat (first|refine e_new rfl rfl rfl rfl (by first|exact n_alloc rfl (by first|exact aggL|fail)|fail) (fun _ => ?_)|refine e_store rfl rfl rfl rfl rfl rfl rfl rfl (by first|rfl|fail) rfl rfl (by first|(simp; done)|fail) (by first|exact splice_lit (by rfl)|fail) ?_|refine e_nil rfl ?_|fail)
   rename_i b16 b17
   refine x_midW fun a0 W ha hmm => ?_
   have hD := hmm.allBut (mem' := (br, Obj.cells ⟨ivec Lc (fun _ => 0)⟩ 3 (0, 0)) :: (b16, .cells ⟨[.slice (some ⟨br, 0, none⟩) Lc Lc]⟩ 30 (0, 0)) :: (b17, .cells ⟨[.slice none (cds x).length 0]⟩ 30 (0, 0)) :: (bax, Obj.cells ⟨[.slice (some ⟨ba, 0, none⟩) (m + 1) (m + 1)]⟩ 30 (0, 0)) :: (ba, .cells ⟨ivec (m + 1) (atF ls (m + 1))⟩ 3 (0, 0)) :: (bx, .cells ⟨[.slice (some ⟨bw, 0, none⟩) (m + 1) (m + 1)]⟩ 30 (0, 0)) :: (bw, .cells ⟨ivec (m + 1) fun k => (wd ls k : Int)⟩ 3 (0, 0)) :: (bp, .cells ⟨vec ws.length f⟩ 62 (0, 0)) :: (o.mem rows ++ Ds.map opn)) (.keep rfl (.keep rfl (.keep (by first|(rw [hnil]; done)|(rw [hnil]; rfl)) (.drop (MSub.refl _)))))
   exact ⟨⟨W, none, 0, b17, b16, br⟩, ⟨k4.trans (hmm.same.mono k5), fun k hk => hD k (k5 k hk), k6.move hmm.same hD, fun j hj => (k7 j hj).move hmm.same hD, fun v hv => ⟨(k8 v hv).1.move hmm.same hD, (k8 v hv).2⟩, by rw [hnil]; exact Ar.nil⟩, (show EnvSub _ [(0, .slice (some ⟨bA, oA, none⟩) ws.length cap), (2, o.sv i), (3, .int .i64 0), (4, .slice TA m tc), (5, .slice (some ⟨bp, 0, none⟩) ws.length ws.length), (6, .pointer (some ⟨bx, 0, none⟩)), (10, .pointer (some ⟨bax, 0, none⟩)), (11, .int .i64 Lc), (119, .slice (some ⟨bA, oA, none⟩) ws.length cap), (120, .int .i64 ws.length), (121, .int .i64 i), (14, .int .i64 i), (16, .pointer (some ⟨b16, 0, none⟩)), (17, .pointer (some ⟨b17, 0, none⟩))] from (by repeat (first|exact .nil|refine .cons rfl (by first|rfl|(congr 1; done)|exact congrArg _ (by omega)|(simp; done)) ?_))).sat ha, hmm.fresh0 (mem' := (br, Obj.cells ⟨ivec Lc (fun _ => 0)⟩ 3 (0, 0)) :: (b16, .cells ⟨[.slice (some ⟨br, 0, none⟩) Lc Lc]⟩ 30 (0, 0)) :: (b17, .cells ⟨[.slice none (cds x).length 0]⟩ 30 (0, 0)) :: (bax, Obj.cells ⟨[.slice (some ⟨ba, 0, none⟩) (m + 1) (m + 1)]⟩ 30 (0, 0)) :: (ba, .cells ⟨ivec (m + 1) (atF ls (m + 1))⟩ 3 (0, 0)) :: (bx, .cells ⟨[.slice (some ⟨bw, 0, none⟩) (m + 1) (m + 1)]⟩ 30 (0, 0)) :: (bw, .cells ⟨ivec (m + 1) fun k => (wd ls k : Int)⟩ 3 (0, 0)) :: (bp, .cells ⟨vec ws.length f⟩ 62 (0, 0)) :: (o.mem rows ++ Ds.map opn)) (.keep rfl (.keep rfl (.keep (by first|(rw [hnil]; done)|(rw [hnil]; rfl)) (.drop (MSub.refl _)))))⟩
  ·have hcall : ∀ (mem : List (Nat × Obj)) (W : World), SatW W3 D noJ mem W -> Calls Tryz.prog 16 ⟨[.agg ⟨wiE x⟩]⟩ W fun e' W' => ∃ b cap rest, e' = .returned (.slice (some ⟨b, 0, none⟩) (cds x).length cap) /\ Grow 1 (cds x).length (flatI (cds x)) cap rest /\ Below W.heap.size W W' /\ W.heap.size <= b /\ W'.heap[b]? = some (.cells ⟨flatI (cds x) ++ rest⟩ 3 (0, 0)) := fun _ W hW => (codes_calls x W ((hwi.out x (List.mem_of_getElem? hwx)).later (k4.trans (hW.same.mono k5)).base_later) (hrl hwx)).mono fun e W' ⟨h1, h2⟩ => by
    rcases h2 with ⟨h3, -⟩ | ⟨-, b, cap, rest, h3, h4, h5, h6⟩
    ·exact absurd h3 hnil
    ·exact ⟨b, cap, rest, h3, h4, h1, h5, h6⟩
   refine c_new 0 4 [(1, .new 0), (3, .calA 1 1 (cds x).length (flatI (cds x)) 3), (4, .new 2), (5, .new 3), (6, .sto 2 0 1), (7, .sto 3 0 1)] [(1,[0]),(3,[1]),(4,[2]),(5,[3]),(6,[2]),(7,[3])] [] rfl (by decide +kernel) rfl ?_; repeat (first|refine e_val rfl rfl rfl rfl (by first|exact pEv rfl|fail) ?_|fail)
   refine e_new rfl rfl rfl rfl (n_make (n := Lc) rfl rfl rfl rfl rfl (by omega) (by omega) rfl rfl flat_int) (fun br => ?_)
   repeat (first|refine e_val rfl rfl rfl rfl (by first|exact vLd rfl (by repeat constructor) rfl (by rfl)|fail) ?_|fail)
   refine e_callA rfl rfl rfl rfl rfl (by decide) (flatI_len _) (by unfold maxLen; omega) rfl (fun W hW => hcall _ W hW) (fun bl lc lr hlg => ?_)
   repeat (first|refine e_new rfl rfl rfl rfl (by first|exact n_alloc rfl (by first|exact aggL|fail)|fail) (fun _ => ?_)|refine e_store rfl rfl rfl rfl rfl rfl rfl rfl (by first|rfl|fail) rfl rfl (by first|(simp; done)|fail) (by first|exact splice_lit (by rfl)|fail) ?_|refine e_nil rfl ?_|fail)
   rename_i b16 b17
   refine x_midW fun a0 W ha hmm => ?_
   have hD := hmm.allBut (mem' := (br, Obj.cells ⟨ivec Lc (fun _ => 0)⟩ 3 (0, 0)) :: (b16, .cells ⟨[.slice (some ⟨br, 0, none⟩) Lc Lc]⟩ 30 (0, 0)) :: (b17, .cells ⟨[.slice (some ⟨bl, 0, none⟩) (cds x).length lc]⟩ 30 (0, 0)) :: (bax, Obj.cells ⟨[.slice (some ⟨ba, 0, none⟩) (m + 1) (m + 1)]⟩ 30 (0, 0)) :: (ba, .cells ⟨ivec (m + 1) (atF ls (m + 1))⟩ 3 (0, 0)) :: (bx, .cells ⟨[.slice (some ⟨bw, 0, none⟩) (m + 1) (m + 1)]⟩ 30 (0, 0)) :: (bw, .cells ⟨ivec (m + 1) fun k => (wd ls k : Int)⟩ 3 (0, 0)) :: (bp, .cells ⟨vec ws.length f⟩ 62 (0, 0)) :: (o.mem rows ++ Ds.map opn)) (.keep rfl (.drop (.keep rfl (.keep rfl (.drop (MSub.refl _))))))
   exact ⟨⟨W, (some ⟨bl, 0, none⟩), lc, b17, b16, br⟩, ⟨k4.trans (hmm.same.mono k5), fun k hk => hD k (k5 k hk), k6.move hmm.same hD, fun j hj => (k7 j hj).move hmm.same hD, fun v hv => ⟨(k8 v hv).1.move hmm.same hD, (k8 v hv).2⟩, Ar.own hmm (b := bl) (r := lr) (by repeat constructor) (in_len _) (by have hn := hmm.nodup; simp only [List.map_cons, List.nodup_cons, List.mem_cons, not_or] at hn ⊢; exact ⟨fun e => hn.1.1 e.symm, hn.2.1.1, hn.2.1.2.1, hn.2.1.2.2.2⟩)⟩, (show EnvSub _ [(0, .slice (some ⟨bA, oA, none⟩) ws.length cap), (2, o.sv i), (3, .int .i64 0), (4, .slice TA m tc), (5, .slice (some ⟨bp, 0, none⟩) ws.length ws.length), (6, .pointer (some ⟨bx, 0, none⟩)), (10, .pointer (some ⟨bax, 0, none⟩)), (11, .int .i64 Lc), (119, .slice (some ⟨bA, oA, none⟩) ws.length cap), (120, .int .i64 ws.length), (121, .int .i64 i), (14, .int .i64 i), (16, .pointer (some ⟨b16, 0, none⟩)), (17, .pointer (some ⟨b17, 0, none⟩))] from (by repeat (first|exact .nil|refine .cons rfl (by first|rfl|(congr 1; done)|exact congrArg _ (by omega)|(simp; done)) ?_))).sat ha, hmm.fresh0 (mem' := (br, Obj.cells ⟨ivec Lc (fun _ => 0)⟩ 3 (0, 0)) :: (b16, .cells ⟨[.slice (some ⟨br, 0, none⟩) Lc Lc]⟩ 30 (0, 0)) :: (b17, .cells ⟨[.slice (some ⟨bl, 0, none⟩) (cds x).length lc]⟩ 30 (0, 0)) :: (bax, Obj.cells ⟨[.slice (some ⟨ba, 0, none⟩) (m + 1) (m + 1)]⟩ 30 (0, 0)) :: (ba, .cells ⟨ivec (m + 1) (atF ls (m + 1))⟩ 3 (0, 0)) :: (bx, .cells ⟨[.slice (some ⟨bw, 0, none⟩) (m + 1) (m + 1)]⟩ 30 (0, 0)) :: (bw, .cells ⟨ivec (m + 1) fun k => (wd ls k : Int)⟩ 3 (0, 0)) :: (bp, .cells ⟨vec ws.length f⟩ 62 (0, 0)) :: (o.mem rows ++ Ds.map opn)) (.keep rfl (.drop (.keep rfl (.keep rfl (.drop (MSub.refl _))))))⟩
 clear k4 k5 k6 k7 k8 gx hD3
 rintro ⟨W4, LA, lc, b17, b16, br⟩ ⟨q1, q2, q3, q4, q5, q6⟩
 simp only at q1 q2 q3 q4 q5 q6
 generalize hD4 : allBut W4 (List.map (fun p => p.1) ((br, Obj.cells ⟨ivec Lc (fun _ => 0)⟩ 3 (0, 0)) :: (b16, .cells ⟨[.slice (some ⟨br, 0, none⟩) Lc Lc]⟩ 30 (0, 0)) :: (b17, .cells ⟨[.slice LA (cds x).length lc]⟩ 30 (0, 0)) :: (bax, Obj.cells ⟨[.slice (some ⟨ba, 0, none⟩) (m + 1) (m + 1)]⟩ 30 (0, 0)) :: (ba, .cells ⟨ivec (m + 1) (atF ls (m + 1))⟩ 3 (0, 0)) :: (bx, .cells ⟨[.slice (some ⟨bw, 0, none⟩) (m + 1) (m + 1)]⟩ 30 (0, 0)) :: (bw, .cells ⟨ivec (m + 1) fun k => (wd ls k : Int)⟩ 3 (0, 0)) :: (bp, .cells ⟨vec ws.length f⟩ 62 (0, 0)) :: (o.mem rows ++ Ds.map opn))) = D4 at *
 show RunC _ _ ⟨_, _, Ds.map Kin.mark, W4, D4, noJ⟩ _ _ [(0, .slice (some ⟨bA, oA, none⟩) ws.length cap), (2, o.sv i), (3, .int .i64 0), (4, .slice TA m tc), (5, .slice (some ⟨bp, 0, none⟩) ws.length ws.length), (6, .pointer (some ⟨bx, 0, none⟩)), (10, .pointer (some ⟨bax, 0, none⟩)), (11, .int .i64 Lc), (119, .slice (some ⟨bA, oA, none⟩) ws.length cap), (120, .int .i64 ws.length), (121, .int .i64 i), (14, .int .i64 i), (16, .pointer (some ⟨b16, 0, none⟩)), (17, .pointer (some ⟨b17, 0, none⟩))] ((br, Obj.cells ⟨ivec Lc (fun _ => 0)⟩ 3 (0, 0)) :: (b16, .cells ⟨[.slice (some ⟨br, 0, none⟩) Lc Lc]⟩ 30 (0, 0)) :: (b17, .cells ⟨[.slice LA (cds x).length lc]⟩ 30 (0, 0)) :: (bax, Obj.cells ⟨[.slice (some ⟨ba, 0, none⟩) (m + 1) (m + 1)]⟩ 30 (0, 0)) :: (ba, .cells ⟨ivec (m + 1) (atF ls (m + 1))⟩ 3 (0, 0)) :: (bx, .cells ⟨[.slice (some ⟨bw, 0, none⟩) (m + 1) (m + 1)]⟩ 30 (0, 0)) :: (bw, .cells ⟨ivec (m + 1) fun k => (wd ls k : Int)⟩ 3 (0, 0)) :: (bp, .cells ⟨vec ws.length f⟩ 62 (0, 0)) :: (o.mem rows ++ Ds.map opn))
 have hpos2 : ∀ q, q < m -> atk (wd ls) q + wd ls q < Lc := fun q hq => by rw [<- hLc]; unfold lociN; rw [hm]; exact atk_lt (Nat.le_of_lt hq) (.inr ⟨rfl, hq⟩)
 have hpos3 : ∀ q j, q <= m -> j < wd ls q -> atk (wd ls) q + j < Lc := fun q j hq hj => by rw [<- hLc]; unfold lociN; rw [hm]; exact atk_lt hq (.inl hj)
 have hpos2 := Lib.hid hpos2
 have hpos3 := Lib.hid hpos3
 refine c_joinI (ι := Nat -> Int) (fun h => (∀ q, q < m -> h (atk (wd ls) q + wd ls q) = g0I ls i q) /\ (∀ q j, q <= m -> j < wd ls q -> h (atk (wd ls) q + j) = 0)) (fun h => [(0, .slice (some ⟨bA, oA, none⟩) ws.length cap), (2, o.sv i), (3, .int .i64 0), (4, .slice TA m tc), (5, .slice (some ⟨bp, 0, none⟩) ws.length ws.length), (6, .pointer (some ⟨bx, 0, none⟩)), (10, .pointer (some ⟨bax, 0, none⟩)), (11, .int .i64 Lc), (119, .slice (some ⟨bA, oA, none⟩) ws.length cap), (120, .int .i64 ws.length), (121, .int .i64 i), (14, .int .i64 i), (16, .pointer (some ⟨b16, 0, none⟩)), (17, .pointer (some ⟨b17, 0, none⟩))]) (fun h => (br, Obj.cells ⟨ivec Lc h⟩ 3 (0, 0)) :: (b16, .cells ⟨[.slice (some ⟨br, 0, none⟩) Lc Lc]⟩ 30 (0, 0)) :: (b17, .cells ⟨[.slice LA (cds x).length lc]⟩ 30 (0, 0)) :: (bax, Obj.cells ⟨[.slice (some ⟨ba, 0, none⟩) (m + 1) (m + 1)]⟩ 30 (0, 0)) :: (ba, .cells ⟨ivec (m + 1) (atF ls (m + 1))⟩ 3 (0, 0)) :: (bx, .cells ⟨[.slice (some ⟨bw, 0, none⟩) (m + 1) (m + 1)]⟩ 30 (0, 0)) :: (bw, .cells ⟨ivec (m + 1) fun k => (wd ls k : Int)⟩ 3 (0, 0)) :: (bp, .cells ⟨vec ws.length f⟩ 62 (0, 0)) :: (o.mem rows ++ Ds.map opn)) ?_ ?_
 ·by_cases hi0 : i = 0
  ·repeat (first|refine lVa rfl rfl (by first|exact pEv rfl|fail) ?_|refine lNi ?_|refine cRg ?_|refine cSq ?_|refine xTh ?_|refine c_dec_t rfl (by first|omega|fail) ?_|refine cBl ?_|fail)
   refine c_loop (ι := Nat × (Nat -> Int)) (fun (k, h) => k <= m /\ (∀ q, q < m -> h (atk (wd ls) q + wd ls q) = (if q < k then (txt ls).getD q 0 else 0)) /\ (∀ q j, q <= m -> j < wd ls q -> h (atk (wd ls) q + j) = 0)) (fun (k, h) => [(0, .slice (some ⟨bA, oA, none⟩) ws.length cap), (2, o.sv i), (3, .int .i64 0), (4, .slice TA m tc), (5, .slice (some ⟨bp, 0, none⟩) ws.length ws.length), (6, .pointer (some ⟨bx, 0, none⟩)), (10, .pointer (some ⟨bax, 0, none⟩)), (11, .int .i64 Lc), (119, .slice (some ⟨bA, oA, none⟩) ws.length cap), (120, .int .i64 ws.length), (121, .int .i64 i), (14, .int .i64 i), (16, .pointer (some ⟨b16, 0, none⟩)), (17, .pointer (some ⟨b17, 0, none⟩)), (132, .slice TA m tc), (133, .int .i64 m), (134, .int .i64 k)]) (fun (k, h) => (br, Obj.cells ⟨ivec Lc h⟩ 3 (0, 0)) :: (b16, .cells ⟨[.slice (some ⟨br, 0, none⟩) Lc Lc]⟩ 30 (0, 0)) :: (b17, .cells ⟨[.slice LA (cds x).length lc]⟩ 30 (0, 0)) :: (bax, Obj.cells ⟨[.slice (some ⟨ba, 0, none⟩) (m + 1) (m + 1)]⟩ 30 (0, 0)) :: (ba, .cells ⟨ivec (m + 1) (atF ls (m + 1))⟩ 3 (0, 0)) :: (bx, .cells ⟨[.slice (some ⟨bw, 0, none⟩) (m + 1) (m + 1)]⟩ 30 (0, 0)) :: (bw, .cells ⟨ivec (m + 1) fun k => (wd ls k : Int)⟩ 3 (0, 0)) :: (bp, .cells ⟨vec ws.length f⟩ 62 (0, 0)) :: (o.mem rows ++ Ds.map opn)) (fun (k, h) => m - k) (0, fun _ => 0) ⟨Nat.zero_le _, fun q _ => rfl, fun _ _ _ _ => rfl⟩ (by repeat (first|exact .nil|refine .cons rfl (by first|rfl|(congr 1; done)|exact congrArg _ (by omega)|(simp; done)) ?_)) (MSub.refl _) ?_
   rintro ⟨k, h⟩ ⟨r1, r2, r3⟩
   simp only at r1 r2 r3 ⊢
   by_cases hk : k < m
   ·obtain ⟨c, hcc⟩ : ∃ c, (txt ls)[k]? = some c := ⟨_, List.getElem?_eq_getElem (by omega)⟩
    obtain ⟨bt, ot, rfl, gt⟩ := q3.get hcc
    rw [Nat.mul_one] at gt
    have hat : atF ls (m + 1) k = (atk (wd ls) k : Int) := atF_get (by omega)
    have hp := hpos2.out k hk
    have hto : (atF ls (m + 1) k + (wd ls k : Int)).toNat = atk (wd ls) k + wd ls k := by rw [hat]; omega
    have n1 : ∀ q, q < m -> iset h (atF ls (m + 1) k + (wd ls k : Int)).toNat c (atk (wd ls) q + wd ls q) = if q < k + 1 then (txt ls).getD q 0 else 0 := fun q hq => by
     rw [hto]; unfold iset
     by_cases e : q = k
     ·rw [if_pos (by rw [e]), if_pos (by omega), e, List.getD_eq_getElem?_getD, hcc]; rfl
     ·rw [if_neg (fun h => e (atk_inj (Nat.le_refl _) (Nat.le_refl _) h).1), r2 q hq]
      by_cases e2 : q < k
      ·rw [if_pos e2, if_pos (by omega)]
      ·rw [if_neg e2, if_neg (by omega)]
    have n2 : ∀ q j, q <= m -> j < wd ls q -> iset h (atF ls (m + 1) k + (wd ls k : Int)).toNat c (atk (wd ls) q + j) = 0 := fun q j hq hj => by
     rw [hto]; unfold iset
     rw [if_neg (fun h => by have := atk_inj (Nat.le_of_lt hj) (Nat.le_refl _) h; obtain ⟨e1, e2⟩ := this; subst e1; omega), r3 q j hq hj]
    have n1 := Lib.hid n1
    have n2 := Lib.hid n2
    clear r2 r3
    repeat (first|refine lVa rfl rfl (by first|exact v_add rfl rfl (by omega) (by omega)|exact pEv rfl|exact vL0 rfl (by assumption) rfl (by rfl)|exact v_index rfl rfl rfl rfl (by omega) (by omega) (by with_reducible first|exact idx2 _ _|fail)|fail) ?_|refine lNi ?_|refine cRg ?_|refine cSq ?_|refine xTh ?_|refine c_dec_t rfl (by first|omega|fail) ?_|refine cBl ?_|refine cSk ?_|refine x_block ?_|refine c_cut rfl (by decide +kernel) ?_|refine h_val rfl rfl (by first|exact v_add rfl rfl (by omega) (by omega)|exact pEv rfl|exact vLd rfl (by repeat constructor) rfl (by rfl)|exact v_index rfl rfl rfl rfl (by omega) (by omega) (by with_reducible first|exact idx1 _|exact idx5 _|fail)|exact v_load_at rfl (by repeat constructor) rfl rfl (by first|exact ivec_get (by omega)|fail)|fail) ?_|refine h_do1 rfl (by decide +kernel) (by decide +kernel) rfl rfl (by first|exact d_store_at rfl rfl rfl rfl rfl (by repeat constructor) (by first|(rw [ivec_length]; omega)|fail) (by first|exact ivec_set|fail)|fail) ?_|fail)
    exact x_back (k + 1, iset h (atF ls (m + 1) k + (wd ls k : Int)).toNat c) ⟨hk, n1.out, n2.out⟩ (by simp only; omega) (by repeat (first|exact .nil|refine .cons rfl (by first|rfl|(congr 1; done)|exact congrArg _ (by omega)|(simp; done)) ?_)) (MSub.refl _)
   ·have hkm : k = m := by omega
    subst hkm
    have n1 := Lib.hid r2
    have n2 := Lib.hid r3
    clear r2 r3
    repeat (first|refine lVa rfl rfl (by first|exact pEv rfl|fail) ?_|refine lNi ?_|refine cRg ?_|refine cSq ?_|refine xTh ?_|refine c_dec_f rfl (by first|omega|fail) ?_|refine c_exit ?_|refine xTe ?_|refine xBs ?_|fail)
    exact x_midI h ⟨fun q hq => by rw [n1.out q hq, if_pos hq]; unfold g0I; rw [if_pos hi0], n2.out⟩ (by repeat (first|exact .nil|refine .cons rfl (by first|rfl|(congr 1; done)|exact congrArg _ (by omega)|(simp; done)) ?_)) (MSub.refl _)
  ·repeat (first|refine lVa rfl rfl (by first|exact pEv rfl|fail) ?_|refine lNi ?_|refine cRg ?_|refine cSq ?_|refine xTh ?_|refine c_dec_f rfl (by first|omega|fail) ?_|refine cSk ?_|fail)
   exact x_midI (fun _ => 0) ⟨fun q hq => by unfold g0I; rw [if_neg hi0], fun _ _ _ _ => rfl⟩ (by repeat (first|exact .nil|refine .cons rfl (by first|rfl|(congr 1; done)|exact congrArg _ (by omega)|(simp; done)) ?_)) (MSub.refl _)
 rintro h0 ⟨r1, r2⟩
 have hget : (vec ws.length f)[i]? = some (.slice (PA i) (prI ls i).length (pc i)) := by rw [vec_get hlt, i6 i hlt]
 have hps := q4 i hlt
 have hpl : (prI ls i).length <= 128 := by have := prI_len (ls := ls) i; have := hsh i; omega
 have r1 := Lib.hid r1
 have r2 := Lib.hid r2
 repeat (first|refine lVa rfl rfl (by first|exact pEv rfl|exact v_index rfl rfl rfl rfl (by omega) (by omega) (by with_reducible first|exact idx1 _|fail)|exact v_load_at rfl (by repeat constructor) rfl rfl (by first|assumption|fail)|fail) ?_|refine lNi ?_|refine cRg ?_|refine cSq ?_|refine xTh ?_|refine cBl ?_|fail)
 refine c_loop (ι := Nat × (Nat -> Int) × (Nat -> Int)) (fun (t, h, g) => t <= (prI ls i).length /\ (∀ q, q < m -> h (atk (wd ls) q + wd ls q) = g q) /\ (∀ q j, q <= m -> j < wd ls q -> h (atk (wd ls) q + j) = 0) /\ (∀ q, q < m -> ov (li ls i) ((prI ls i).drop t) g q = tpI ls i q)) (fun (t, h, g) => [(0, .slice (some ⟨bA, oA, none⟩) ws.length cap), (2, o.sv i), (3, .int .i64 0), (4, .slice TA m tc), (5, .slice (some ⟨bp, 0, none⟩) ws.length ws.length), (6, .pointer (some ⟨bx, 0, none⟩)), (10, .pointer (some ⟨bax, 0, none⟩)), (11, .int .i64 Lc), (119, .slice (some ⟨bA, oA, none⟩) ws.length cap), (120, .int .i64 ws.length), (121, .int .i64 i), (14, .int .i64 i), (16, .pointer (some ⟨b16, 0, none⟩)), (17, .pointer (some ⟨b17, 0, none⟩)), (155, .slice (PA i) (prI ls i).length (pc i)), (156, .int .i64 (prI ls i).length), (157, .int .i64 t)]) (fun (t, h, g) => (br, Obj.cells ⟨ivec Lc h⟩ 3 (0, 0)) :: (b16, .cells ⟨[.slice (some ⟨br, 0, none⟩) Lc Lc]⟩ 30 (0, 0)) :: (b17, .cells ⟨[.slice LA (cds x).length lc]⟩ 30 (0, 0)) :: (bax, Obj.cells ⟨[.slice (some ⟨ba, 0, none⟩) (m + 1) (m + 1)]⟩ 30 (0, 0)) :: (ba, .cells ⟨ivec (m + 1) (atF ls (m + 1))⟩ 3 (0, 0)) :: (bx, .cells ⟨[.slice (some ⟨bw, 0, none⟩) (m + 1) (m + 1)]⟩ 30 (0, 0)) :: (bw, .cells ⟨ivec (m + 1) fun k => (wd ls k : Int)⟩ 3 (0, 0)) :: (bp, .cells ⟨vec ws.length f⟩ 62 (0, 0)) :: (o.mem rows ++ Ds.map opn)) (fun (t, h, g) => (prI ls i).length - t) (0, h0, g0I ls i) ⟨Nat.zero_le _, r1.out, r2.out, fun q _ => rfl⟩ (by repeat (first|exact .nil|refine .cons rfl (by first|rfl|(congr 1; done)|exact congrArg _ (by omega)|(simp; done)) ?_)) (MSub.refl _) ?_
 rintro ⟨t, h, g⟩ ⟨u1, u2, u3, u4⟩
 simp only at u1 u2 u3 u4 ⊢
 by_cases htl : t < (prI ls i).length
 ·obtain ⟨y, hy⟩ : ∃ y, (prI ls i)[t]? = some y := ⟨_, List.getElem?_eq_getElem htl⟩
  obtain ⟨p1, p2, p3⟩ := prI_bd y (List.mem_of_getElem? hy)
  have hdr : (prI ls i).drop t = y :: (prI ls i).drop (t + 1) := drop_getA hy
  obtain ⟨bq, oq, hPA, gp⟩ := hps.get hy
  rw [hPA]
  rw [hdr] at u4
  by_cases h1 : 0 < y.1
  ·by_cases h2 : 0 < y.2
   ·have y1m : y.1 <= m := by omega
    obtain ⟨c, hcc⟩ : ∃ c, (cds x)[(y.2 - 1).toNat]? = some c := ⟨_, List.getElem?_eq_getElem (by rw [<- hlx]; omega)⟩
    have hgd : (li ls i).getD (y.2 - 1).toNat 0 = c := by rw [hlx, List.getD_eq_getElem?_getD, hcc]; rfl
    obtain ⟨bl, ol, rfl, gl⟩ := q6.get hcc
    rw [Nat.mul_one] at gl
    have hy2 : (y.2 - 1).toNat < (cds x).length := (List.getElem?_eq_some_iff.1 hcc).1
    have hat : atF ls (m + 1) (y.1 - 1).toNat = (atk (wd ls) (y.1 - 1).toNat : Int) := atF_get (by omega)
    have hp := hpos2.out (y.1 - 1).toNat (by omega)
    have hto : (atF ls (m + 1) (y.1 - 1).toNat + (wd ls (y.1 - 1).toNat : Int)).toNat = atk (wd ls) (y.1 - 1).toNat + wd ls (y.1 - 1).toNat := by rw [hat]; omega
    have n1 : ∀ q, q < m -> iset h (atF ls (m + 1) (y.1 - 1).toNat + (wd ls (y.1 - 1).toNat : Int)).toNat c (atk (wd ls) q + wd ls q) = (fun q => if q = (y.1 - 1).toNat then (li ls i).getD (y.2 - 1).toNat 0 else g q) q := fun q hq => by
     rw [hto]; unfold iset; simp only
     by_cases e : q = (y.1 - 1).toNat
     ·rw [if_pos (by rw [e]), if_pos e, hgd]
     ·rw [if_neg (fun h => e (atk_inj (Nat.le_refl _) (Nat.le_refl _) h).1), if_neg e, u2 q hq]
    have n2 : ∀ q j, q <= m -> j < wd ls q -> iset h (atF ls (m + 1) (y.1 - 1).toNat + (wd ls (y.1 - 1).toNat : Int)).toNat c (atk (wd ls) q + j) = 0 := fun q j hq hj => by
     rw [hto]; unfold iset
     rw [if_neg (fun h => by have := atk_inj (Nat.le_of_lt hj) (Nat.le_refl _) h; obtain ⟨e1, e2⟩ := this; subst e1; omega), u3 q j hq hj]
    have n3 : ∀ q, q < m -> ov (li ls i) ((prI ls i).drop (t + 1)) (fun q => if q = (y.1 - 1).toNat then (li ls i).getD (y.2 - 1).toNat 0 else g q) q = tpI ls i q := fun q hq => by
     have := u4 q hq
     rw [ov, if_pos ⟨h1, h2⟩] at this
     exact this
    have n1 := Lib.hid n1
    have n2 := Lib.hid n2
    have n3 := Lib.hid n3
    clear u2 u3 u4 p1 p2 p3
    repeat (first|refine lVa rfl rfl (by first|exact v_add rfl rfl (by omega) (by omega)|exact pEv rfl|exact vLd rfl (by repeat constructor) rfl (by rfl)|exact vL0 rfl (by assumption) rfl (by rfl)|exact v_index rfl rfl rfl rfl (by omega) (by omega) (by with_reducible first|exact idx4 _ _ _|fail)|exact v_indexA rfl rfl rfl rfl (by omega) (by omega) (by with_reducible first|exact idx5 _|fail)|fail) ?_|refine lNi ?_|refine cRg ?_|refine cSq ?_|refine xTh ?_|refine r_alloc rfl rfl rfl (by first|exact aggL|fail) (fun _ => ?_)|refine rSt rfl rfl rfl rfl rfl rfl rfl (by repeat constructor) (by rfl) ?_|refine c_dec_t rfl (by first|omega|fail) ?_|refine cBl ?_|refine cSk ?_|refine x_block ?_|refine l_dec_t rfl rfl rfl rfl rfl (by first|omega|fail) ?_|refine c_cut rfl (by decide +kernel) ?_|refine h_val rfl rfl (by first|exact v_add rfl rfl (by omega) (by omega)|exact v_sub rfl rfl (by omega) (by omega)|exact vLd rfl (by repeat constructor) rfl (by rfl)|exact vL0 rfl (by assumption) rfl (by rfl)|exact v_index rfl rfl rfl rfl (by omega) (by omega) (by with_reducible first|exact idx5 _|exact idx6 _ _|fail)|exact v_indexA rfl rfl rfl rfl (by omega) (by omega) (by with_reducible first|exact idx5 _|fail)|exact v_load_at rfl (by repeat constructor) rfl rfl (by first|exact ivec_get (by omega)|fail)|fail) ?_|refine h_do1 rfl (by decide +kernel) (by decide +kernel) rfl rfl (by first|exact d_store_at rfl rfl rfl rfl rfl (by repeat constructor) (by first|(rw [ivec_length]; omega)|fail) (by first|exact ivec_set|fail)|fail) ?_|fail)
    exact x_back (t + 1, iset h (atF ls (m + 1) (y.1 - 1).toNat + (wd ls (y.1 - 1).toNat : Int)).toNat c, fun q => if q = (y.1 - 1).toNat then (li ls i).getD (y.2 - 1).toNat 0 else g q) ⟨htl, n1.out, n2.out, n3.out⟩ (by simp only; omega) (by repeat (first|exact .nil|refine .cons rfl (by first|rfl|(congr 1; done)|exact congrArg _ (by omega)|(simp; done)) ?_)) (.drop (MSub.refl _))
   ·have n1 := Lib.hid u2
    have n2 := Lib.hid u3
    have n3 : Hid (∀ q, q < m -> ov (li ls i) ((prI ls i).drop (t + 1)) g q = tpI ls i q) := Lib.hid fun q hq => by
     have := u4 q hq
     rw [ov, if_neg (fun h => h2 h.2)] at this
     exact this
    clear u2 u3 u4 p1 p2 p3
    repeat (first|refine lVa rfl rfl (by first|exact v_add rfl rfl (by omega) (by omega)|exact pEv rfl|exact vLd rfl (by repeat constructor) rfl (by rfl)|exact vL0 rfl (by assumption) rfl (by rfl)|exact v_index rfl rfl rfl rfl (by omega) (by omega) (by with_reducible first|exact idx4 _ _ _|fail)|exact v_indexA rfl rfl rfl rfl (by omega) (by omega) (by with_reducible first|exact idx5 _|fail)|fail) ?_|refine lNi ?_|refine cRg ?_|refine cSq ?_|refine xTh ?_|refine r_alloc rfl rfl rfl (by first|exact aggL|fail) (fun _ => ?_)|refine rSt rfl rfl rfl rfl rfl rfl rfl (by repeat constructor) (by rfl) ?_|refine c_dec_t rfl (by first|omega|fail) ?_|refine c_dec_f rfl (by first|omega|fail) ?_|refine cBl ?_|refine cSk ?_|refine x_block ?_|refine l_dec_t rfl rfl rfl rfl rfl (by first|omega|fail) ?_|fail)
    exact x_back (t + 1, h, g) ⟨htl, n1.out, n2.out, n3.out⟩ (by simp only; omega) (by repeat (first|exact .nil|refine .cons rfl (by first|rfl|(congr 1; done)|exact congrArg _ (by omega)|(simp; done)) ?_)) (.drop (MSub.refl _))
  ·have n1 := Lib.hid u2
   have n2 := Lib.hid u3
   have n3 : Hid (∀ q, q < m -> ov (li ls i) ((prI ls i).drop (t + 1)) g q = tpI ls i q) := Lib.hid fun q hq => by
    have := u4 q hq
    rw [ov, if_neg (fun h => h1 h.1)] at this
    exact this
   clear u2 u3 u4 p1 p2 p3
   repeat (first|refine lVa rfl rfl (by first|exact v_add rfl rfl (by omega) (by omega)|exact pEv rfl|exact vLd rfl (by repeat constructor) rfl (by rfl)|exact vL0 rfl (by assumption) rfl (by rfl)|exact v_index rfl rfl rfl rfl (by omega) (by omega) (by with_reducible first|exact idx4 _ _ _|fail)|exact v_indexA rfl rfl rfl rfl (by omega) (by omega) (by with_reducible first|exact idx5 _|fail)|fail) ?_|refine lNi ?_|refine cRg ?_|refine cSq ?_|refine xTh ?_|refine l_skip rfl rfl ?_|refine r_alloc rfl rfl rfl (by first|exact aggL|fail) (fun _ => ?_)|refine rSt rfl rfl rfl rfl rfl rfl rfl (by repeat constructor) (by rfl) ?_|refine c_false rfl ?_|refine c_dec_t rfl (by first|omega|fail) ?_|refine cBl ?_|refine cSk ?_|refine x_block ?_|refine l_dec_f rfl rfl rfl rfl rfl (by first|omega|fail) ?_|fail)
   exact x_back (t + 1, h, g) ⟨htl, n1.out, n2.out, n3.out⟩ (by simp only; omega) (by repeat (first|exact .nil|refine .cons rfl (by first|rfl|(congr 1; done)|exact congrArg _ (by omega)|(simp; done)) ?_)) (.drop (MSub.refl _))
 have hte : t = (prI ls i).length := by omega
 subst hte
 rw [List.drop_length] at u4
 have w1 : Hid (∀ q, q < m -> h (atk (wd ls) q + wd ls q) = tpI ls i q) := Lib.hid fun q hq => by rw [u2 q hq]; exact u4 q hq
 have w2 := Lib.hid u3
 clear u2 u3 u4 u1 htl r1 r2
 repeat (first|refine lVa rfl rfl (by first|exact v_add rfl rfl (by omega) (by omega)|exact pEv rfl|fail) ?_|refine lNi ?_|refine cRg ?_|refine cSq ?_|refine xTh ?_|refine c_dec_f rfl (by first|omega|fail) ?_|refine c_exit ?_|refine xTe ?_|refine xBs ?_|fail)
 refine r_make (n := m + 1) rfl rfl rfl rfl rfl rfl (by omega) (by omega) (by omega) rfl rfl flat_int (fun b22 => ?_)
 repeat (first|refine lVa rfl rfl (by first|exact pEv rfl|exact v_index rfl rfl rfl rfl (by omega) (by omega) (by with_reducible first|exact idx1 _|fail)|exact v_load_at rfl (by repeat constructor) rfl rfl (by first|assumption|fail)|fail) ?_|refine lNi ?_|refine cRg ?_|refine cSq ?_|refine xTh ?_|refine r_alloc rfl rfl rfl (by first|exact aggL|fail) (fun _ => ?_)|refine rSt rfl rfl rfl rfl rfl rfl rfl (by repeat constructor) (by rfl) ?_|fail)
 rename_i b22x
 refine r_call1 (ι := Nat) (bk := fun b => b) rfl rfl rfl (fun W hW => alone_calls _ W) (fun b6 => ?_)
 repeat (first|refine lNi ?_|refine xTh ?_|refine cBl ?_|fail)
 have e1 : Obj.cells ⟨ivec (m + 1) fun _ => 0⟩ 3 (0, 0) = Obj.cells ⟨ivec (m + 1) (hrI ls i 0)⟩ 3 (0, 0) := by rw [hrI_0]
 refine c_range yE (ysI ls i) (fun k => D4 k ∨ k = b6) [(b6, Obj.cells ⟨[.slice (PA i) (prI ls i).length (pc i)]⟩ 62 (0, 0))] (ι := Nat × (Nat -> Int)) (fun p => p.1) (fun (t, h) => t <= (ysI ls i).length /\ (∀ q, q < m -> h (atk (wd ls) q + wd ls q) = tpI ls i q) /\ (∀ q j, q <= m -> j < wd ls q -> h (atk (wd ls) q + j) = (sel (li ls i) q ((ysI ls i).take t)).getD j 0))
  (fun (t, h) => (b22x, Obj.cells ⟨[.slice (some ⟨b22, 0, none⟩) (m + 1) (m + 1)]⟩ 30 (0, 0)) :: (b22, .cells ⟨ivec (m + 1) (hrI ls i t)⟩ 3 (0, 0)) :: (br, Obj.cells ⟨ivec Lc h⟩ 3 (0, 0)) :: (b16, .cells ⟨[.slice (some ⟨br, 0, none⟩) Lc Lc]⟩ 30 (0, 0)) :: (b17, .cells ⟨[.slice LA (cds x).length lc]⟩ 30 (0, 0)) :: (bax, Obj.cells ⟨[.slice (some ⟨ba, 0, none⟩) (m + 1) (m + 1)]⟩ 30 (0, 0)) :: (ba, .cells ⟨ivec (m + 1) (atF ls (m + 1))⟩ 3 (0, 0)) :: (bx, .cells ⟨[.slice (some ⟨bw, 0, none⟩) (m + 1) (m + 1)]⟩ 30 (0, 0)) :: (bw, .cells ⟨ivec (m + 1) fun k => (wd ls k : Int)⟩ 3 (0, 0)) :: (bp, .cells ⟨vec ws.length f⟩ 62 (0, 0)) :: (o.mem rows ++ Ds.map opn))
  (fun _ _ => False) (0, h) rfl (fun W W1 hW hs => ?_) (fun b hb => hb.imp id fun e => by simp [e]) (fun _ _ => rfl) (by decide) rfl ⟨Nat.zero_le _, w1.out, fun q j hq hj => by rw [w2.out q j hq hj]; simp [sel]⟩ (.keep rfl (.keep rfl (.keep e1 (MSub.refl _))))
  (env' := [(10, .pointer (some ⟨bax, 0, none⟩)), (16, .pointer (some ⟨b16, 0, none⟩)), (17, .pointer (some ⟨b17, 0, none⟩)), (22, .pointer (some ⟨b22x, 0, none⟩))]) (by repeat (first|exact .nil|refine .cons rfl (by first|rfl|(congr 1; done)|exact congrArg _ (by omega)|(simp; done)) ?_)) ?_ ?_ (fun _ _ _ h => h.elim)
 ·have hW1 := hW.any hs
  refine alone_it _ (prI ls i) (PA i) (pc i) (li ls i).length b6 W1 (.inr rfl) ?_ (hW1.own (b6, _) (by repeat constructor)).2 (hps.move hW1.same fun k hk => .inl hk) (psOK hsh i) (by have := hsh i; omega) (by omega)
  rintro k (hk | rfl)
  ·exact Nat.lt_of_lt_of_le (hW1.dom k hk) hW1.same.size
  ·exact hW1.lt (p := (k, _)) (by repeat constructor)
 ·rintro ⟨t, h⟩ ⟨v1, v2, v3⟩ hk n lp W5 hW5 hDl hol
  simp only at hk v1 v2 v3 hW5 hol ⊢
  obtain ⟨y, hy1⟩ : ∃ y, (ysI ls i)[t] = y := ⟨_, rfl⟩
  have hy : (ysI ls i)[t]? = some y := by rw [List.getElem?_eq_getElem hk, hy1]
  rw [hy1]
  obtain ⟨y1, y2, y3, y4⟩ := ysI_bd y (List.mem_of_getElem? hy)
  rw [hm] at y2
  obtain ⟨c, hcc⟩ : ∃ c, (cds x)[y.2.toNat]? = some c := ⟨_, List.getElem?_eq_getElem (by rw [<- hlx]; omega)⟩
  have hgd : (li ls i).getD y.2.toNat 0 = c := by rw [hlx, List.getD_eq_getElem?_getD, hcc]; rfl
  have hy2 : y.2.toNat < (cds x).length := (List.getElem?_eq_some_iff.1 hcc).1
  obtain ⟨bl, ol, hLA, gl⟩ := q6.get hcc
  rw [Nat.mul_one] at gl
  have hcnt := sel_cnt (ls := ls) (by rw [hlsl]; exact hlt) hy
  have hb1 := hrI_bd hsh i t y.1.toNat
  have hat : atF ls (m + 1) y.1.toNat = (atk (wd ls) y.1.toNat : Int) := atF_get (by omega)
  have hp := hpos3.out y.1.toNat _ (by omega) hcnt
  have hhr : hrI ls i t y.1.toNat = ((sel (li ls i) y.1.toNat ((ysI ls i).take t)).length : Nat) := rfl
  have hto : (atF ls (m + 1) y.1.toNat + hrI ls i t y.1.toNat).toNat = atk (wd ls) y.1.toNat + (sel (li ls i) y.1.toNat ((ysI ls i).take t)).length := by rw [hat, hhr]; omega
  have n1 : ∀ q, q < m -> iset h (atF ls (m + 1) y.1.toNat + hrI ls i t y.1.toNat).toNat c (atk (wd ls) q + wd ls q) = tpI ls i q := fun q hq => by
   rw [hto]; unfold iset
   rw [if_neg (fun h => by obtain ⟨e1, e2⟩ := atk_inj (Nat.le_refl _) (Nat.le_of_lt hcnt) h; subst e1; omega), v2 q hq]
  have n2 : ∀ q j, q <= m -> j < wd ls q -> iset h (atF ls (m + 1) y.1.toNat + hrI ls i t y.1.toNat).toNat c (atk (wd ls) q + j) = (sel (li ls i) q ((ysI ls i).take (t + 1))).getD j 0 := fun q j hq hj => by
   rw [hto, sel_take_succ hy]; unfold iset
   by_cases e : q = y.1.toNat
   ·rw [if_pos (show y.1 = (q : Int) by omega), hgd, e]
    by_cases ej : j = (sel (li ls i) y.1.toNat ((ysI ls i).take t)).length
    ·rw [if_pos (by rw [ej]), ej, List.getD_eq_getElem?_getD, List.getElem?_append_right (Nat.le_refl _), Nat.sub_self]; rfl
    ·rw [if_neg (fun h => ej (by omega)), v3 y.1.toNat j (by omega) (by rw [<- e]; exact hj)]
     rw [List.getD_eq_getElem?_getD, List.getD_eq_getElem?_getD]
     by_cases el : j < (sel (li ls i) y.1.toNat ((ysI ls i).take t)).length
     ·rw [List.getElem?_append_left el]
     ·rw [List.getElem?_eq_none (by omega), List.getElem?_eq_none (by simp only [List.length_append, List.length_cons, List.length_nil]; omega)]
   ·rw [if_neg (show ¬ y.1 = (q : Int) by omega), List.append_nil, if_neg (fun h => e (atk_inj (Nat.le_of_lt hj) (Nat.le_of_lt hcnt) h).1), v3 q j hq hj]
  have n1 := Lib.hid n1
  have n2 := Lib.hid n2
  clear v2 v3 hto
  rw [hLA]
  rw [hLA] at hW5 hol
  repeat (first|refine lVa rfl rfl (by first|exact pEv rfl|fail) ?_|refine lNi ?_|refine cRg ?_|refine cSq ?_|refine xTh ?_|fail)
  refine x_body hW5 hDl hol (fun nx W6 r hW6 hr2 ho => ?_)
  have gl := gl.into hW6
  repeat (first|refine lVa rfl rfl (by first|exact v_add rfl rfl (by omega) (by omega)|exact pEv rfl|exact vLd rfl (by repeat constructor) rfl (by rfl)|exact v_index rfl rfl rfl rfl (by omega) (by omega) (by with_reducible first|exact idx5 _|fail)|exact v_load_at rfl (by repeat constructor) rfl rfl (by first|exact ivec_get (by omega)|fail)|fail) ?_|refine lNi ?_|refine cRg ?_|refine cSq ?_|refine xTh ?_|refine r_store_at rfl rfl rfl rfl rfl rfl (by repeat constructor) (by first|(rw [ivec_length]; omega)|fail) (by first|exact ivec_set|fail) ?_|refine cBl ?_|refine x_block ?_|refine c_cut rfl (by decide +kernel) ?_|refine h_val rfl rfl (by first|exact v_add rfl rfl (by omega) (by omega)|exact pEv rfl|exact vLd rfl (by repeat constructor) rfl (by rfl)|exact vL0 rfl (by assumption) rfl (by rfl)|exact v_index rfl rfl rfl rfl (by omega) (by omega) (by with_reducible first|exact idx5 _|exact idx6 _ _|fail)|exact v_load_at rfl (by repeat constructor) rfl rfl (by first|exact ivec_get (by omega)|fail)|fail) ?_|refine h_do1 rfl (by decide +kernel) (by decide +kernel) rfl rfl (by first|exact d_store_at rfl rfl rfl rfl rfl (by repeat constructor) (by first|(rw [ivec_length]; omega)|fail) (by first|exact ivec_set|fail)|fail) ?_|fail)
  rw [hrI_succ hy]
  rw [<- hLA]
  exact x_next (t + 1, iset h (atF ls (m + 1) y.1.toNat + hrI ls i t y.1.toNat).toNat c) rfl ⟨hk, n1.out, n2.out⟩ (MSub.refl _)
 ·rintro B ⟨t, h⟩ hk ⟨v1, v2, v3⟩
  simp only at hk v1 v2 v3 ⊢
  subst hk
  rw [List.take_length] at v3
  have hrow : (List.range Lc).map h = rowI ls i := by
   rw [<- hLc]; unfold lociN rowI
   rw [hm]
   exact rowL_of (fun k _ => sgI_le (by rw [hlsl]; exact hlt)) (fun k j hk hj => v3 k j hk hj) (fun k hk => v2 k hk)
  have hrl2 : (rowI ls i).length = Lc := by rw [rowI_len (by rw [hlsl]; exact hlt), hLc]
  clear v2 v3 w1 w2
  rcases o with _ | ⟨bo0, co0, ro0⟩
  ·have hr0 : rows = [] := k9
   have hi0 : i = 0 := by rw [<- k2, hr0]; rfl
   simp only [OS.sv, OS.mem, List.nil_append, List.cons_append]
   repeat (first|refine lVa rfl rfl (by first|exact pEv rfl|exact vLd rfl (by repeat constructor) rfl (by rfl)|fail) ?_|refine cRg ?_|refine xTh ?_|refine r_buildSlice rfl rfl rfl rfl rfl rfl (by rfl) (fun _ => ?_)|refine x_block ?_|fail)
   refine r_append_nil (m := 1) (ys := [.slice (some ⟨br, 0, none⟩) Lc Lc]) rfl rfl rfl rfl rfl rfl (news_own (by repeat constructor)) rfl rfl (by decide) (by decide) (by decide) (fun bo co ro hgo => ?_)
   have hfl : flatR (rows ++ [⟨some ⟨br, 0, none⟩, Lc, rowI ls i⟩]) = [.slice (some ⟨br, 0, none⟩) Lc Lc] := by rw [hr0]; unfold flatR; simp [rvE, hrl2]
   rw [<- hfl] at hgo ⊢
   have hgo : Grow 1 (i + 1) (flatR (rows ++ [⟨some ⟨br, 0, none⟩, Lc, rowI ls i⟩])) co ro := Eq.subst (motive := fun k => Grow 1 k (flatR (rows ++ [⟨some ⟨br, 0, none⟩, Lc, rowI ls i⟩])) co ro) (show (1 : Nat) = i + 1 by omega) hgo
   have hone : Value.slice (some ⟨bo, 0, none⟩) 1 co = Value.slice (some ⟨bo, 0, none⟩) (i + 1) co := by rw [hi0]
   rw [hone]
   repeat (first|refine lVa rfl rfl (by first|exact v_add rfl rfl (by omega) (by omega)|exact pEv rfl|fail) ?_|refine lNi ?_|refine cRg ?_|refine xTh ?_|refine x_block ?_|fail)
   refine x_backW fun a0 W ha hmm => ?_
   rw [hl5]
   have hm1 := hmm.mono (mem' := ((bo, Obj.cells ⟨flatR (rows ++ [⟨some ⟨br, 0, none⟩, Lc, rowI ls i⟩]) ++ ro⟩ 30 (0, 0)) :: (B, Obj.deferred (some [])) :: (bax, Obj.cells ⟨[.slice (some ⟨ba, 0, none⟩) (m + 1) (m + 1)]⟩ 30 (0, 0)) :: (ba, .cells ⟨ivec (m + 1) (atF ls (m + 1))⟩ 3 (0, 0)) :: (bx, .cells ⟨[.slice (some ⟨bw, 0, none⟩) (m + 1) (m + 1)]⟩ 30 (0, 0)) :: (bw, .cells ⟨ivec (m + 1) fun k => (wd ls k : Int)⟩ 3 (0, 0)) :: (bp, .cells ⟨vec ws.length f⟩ 62 (0, 0)) :: Ds.map opn)) (MSub.sub (.keep rfl (.drop (.keep rfl (.drop (.drop (.drop (.drop (.drop (.drop (MSub.refl _)))))))))))
   have hm2 := hm1.perm (perm7 _ _ _ _ _ _ _ _)
   have hmem : T3.mem l5 ⟨i + 1, W, B :: Ds, rows ++ [⟨some ⟨br, 0, none⟩, Lc, rowI ls i⟩], .more bo co ro⟩ = (bax, Obj.cells ⟨[.slice (some ⟨ba, 0, none⟩) (m + 1) (m + 1)]⟩ 30 (0, 0)) :: (ba, .cells ⟨ivec (m + 1) (atF ls (m + 1))⟩ 3 (0, 0)) :: (bx, .cells ⟨[.slice (some ⟨bw, 0, none⟩) (m + 1) (m + 1)]⟩ 30 (0, 0)) :: (bw, .cells ⟨ivec (m + 1) fun k => (wd ls k : Int)⟩ 3 (0, 0)) :: (bp, .cells ⟨vec ws.length f⟩ 62 (0, 0)) :: (bo, Obj.cells ⟨flatR (rows ++ [⟨some ⟨br, 0, none⟩, Lc, rowI ls i⟩]) ++ ro⟩ 30 (0, 0)) :: (B, Obj.deferred (some [])) :: Ds.map opn := by unfold T3.mem; rw [<- hl5]; rfl
   have hDD : ∀ k, D4 k -> T3.D l5 ⟨i + 1, W, B :: Ds, rows ++ [⟨some ⟨br, 0, none⟩, Lc, rowI ls i⟩], .more bo co ro⟩ k := by unfold T3.D; rw [hmem]; exact hm2.allBut (MSub.refl _)
   have hbr := hmm.own (br, _) (by repeat constructor)
   have hbrn : br ∉ (T3.mem l5 ⟨i + 1, W, B :: Ds, rows ++ [⟨some ⟨br, 0, none⟩, Lc, rowI ls i⟩], .more bo co ro⟩).map (·.1) := by
    rw [hmem]
    have hn := hmm.nodup
    simp only [List.map_cons, List.nodup_cons, List.mem_cons, not_or, List.cons_append, List.nil_append] at hn ⊢
    simp only [eq_comm] at hn ⊢
    simp only [hn, not_false_eq_true, and_self, true_and]
   have hbase : w.heap.size <= br := Nat.le_of_not_lt fun h => hbr.1 (q2 br h)
   have hrowA : Ar W (T3.D l5 ⟨i + 1, W, B :: Ds, rows ++ [⟨some ⟨br, 0, none⟩, Lc, rowI ls i⟩], .more bo co ro⟩) (some ⟨br, 0, none⟩) 1 ((rowI ls i).map inE) := Ar.ownH (r := []) (by rw [List.append_nil]; have h9 := hbr.2; rw [ivec_flatI, hrow] at h9; exact h9) (in_len _) hbrn
   refine ⟨⟨i + 1, W, B :: Ds, rows ++ [⟨some ⟨br, 0, none⟩, Lc, rowI ls i⟩], .more bo co ro⟩, ⟨by simp only; omega, by simp only [List.length_append, k2, List.length_cons, List.length_nil], by simp only; rw [List.map_append, k3, List.range_succ, List.map_append]; rfl, q1.trans (hmm.same.mono q2), fun k hk => hDD k (q2 k hk), q3.move hmm.same hDD, fun j hj => (q4 j (by omega)).move hmm.same hDD, fun v hv => ?_, ⟨by simp, by simpa only [List.length_append, k2, List.length_cons, List.length_nil] using hgo⟩⟩, by simp only; omega,
    (show EnvSub _ [(0, .slice (some ⟨bA, oA, none⟩) ws.length cap), (2, .slice (some ⟨bo, 0, none⟩) (i + 1) co), (3, .int .i64 0), (4, .slice TA m tc), (5, .slice (some ⟨bp, 0, none⟩) ws.length ws.length), (6, .pointer (some ⟨bx, 0, none⟩)), (10, .pointer (some ⟨bax, 0, none⟩)), (11, .int .i64 Lc), (119, .slice (some ⟨bA, oA, none⟩) ws.length cap), (120, .int .i64 ws.length), (121, .int .i64 ((i + 1 : Nat) : Int))] from (by repeat (first|exact .nil|refine .cons rfl (by first|rfl|(congr 1; done)|exact congrArg _ (by omega)|(simp; done)) ?_))).sat ha, by unfold T3.D; rw [hmem]; exact hm2.fresh0 (MSub.refl _)⟩
   rcases List.mem_append.1 hv with hv | hv
   ·exact ⟨(q5 v hv).1.move hmm.same hDD, (q5 v hv).2⟩
   ·rw [List.mem_singleton.1 hv]
    exact ⟨hrowA, fun a e => by cases e; exact hbase⟩
  ·obtain ⟨k91, k92⟩ := k9
   rw [k2] at k92
   simp only [OS.sv, OS.mem, List.nil_append, List.cons_append]
   repeat (first|refine lVa rfl rfl (by first|exact pEv rfl|exact vLd rfl (by repeat constructor) rfl (by rfl)|fail) ?_|refine cRg ?_|refine xTh ?_|refine r_buildSlice rfl rfl rfl rfl rfl rfl (by rfl) (fun _ => ?_)|refine x_block ?_|fail)
   refine r_append (m := 1) (ys := [.slice (some ⟨br, 0, none⟩) Lc Lc]) rfl rfl rfl rfl rfl rfl (news_own (by repeat constructor)) (by repeat (first|exact Rem.head|apply Rem.tail)) k92 rfl rfl (by decide) (by omega) (by unfold maxLen; omega) (fun bo co ro hgo => ?_)
   have hfl : flatR (rows ++ [⟨some ⟨br, 0, none⟩, Lc, rowI ls i⟩]) = flatR rows ++ [.slice (some ⟨br, 0, none⟩) Lc Lc] := by unfold flatR; simp [rvE, hrl2]
   rw [<- hfl] at hgo ⊢
   repeat (first|refine lVa rfl rfl (by first|exact v_add rfl rfl (by omega) (by omega)|exact pEv rfl|fail) ?_|refine lNi ?_|refine cRg ?_|refine xTh ?_|refine x_block ?_|fail)
   refine x_backW fun a0 W ha hmm => ?_
   rw [hl5]
   have hm1 := hmm.mono (mem' := ((bo, Obj.cells ⟨flatR (rows ++ [⟨some ⟨br, 0, none⟩, Lc, rowI ls i⟩]) ++ ro⟩ 30 (0, 0)) :: (B, Obj.deferred (some [])) :: (bax, Obj.cells ⟨[.slice (some ⟨ba, 0, none⟩) (m + 1) (m + 1)]⟩ 30 (0, 0)) :: (ba, .cells ⟨ivec (m + 1) (atF ls (m + 1))⟩ 3 (0, 0)) :: (bx, .cells ⟨[.slice (some ⟨bw, 0, none⟩) (m + 1) (m + 1)]⟩ 30 (0, 0)) :: (bw, .cells ⟨ivec (m + 1) fun k => (wd ls k : Int)⟩ 3 (0, 0)) :: (bp, .cells ⟨vec ws.length f⟩ 62 (0, 0)) :: Ds.map opn)) (MSub.sub (.keep rfl (.drop (.keep rfl (.drop (.drop (.drop (.drop (.drop (.drop (MSub.refl _)))))))))))
   have hm2 := hm1.perm (perm7 _ _ _ _ _ _ _ _)
   have hmem : T3.mem l5 ⟨i + 1, W, B :: Ds, rows ++ [⟨some ⟨br, 0, none⟩, Lc, rowI ls i⟩], .more bo co ro⟩ = (bax, Obj.cells ⟨[.slice (some ⟨ba, 0, none⟩) (m + 1) (m + 1)]⟩ 30 (0, 0)) :: (ba, .cells ⟨ivec (m + 1) (atF ls (m + 1))⟩ 3 (0, 0)) :: (bx, .cells ⟨[.slice (some ⟨bw, 0, none⟩) (m + 1) (m + 1)]⟩ 30 (0, 0)) :: (bw, .cells ⟨ivec (m + 1) fun k => (wd ls k : Int)⟩ 3 (0, 0)) :: (bp, .cells ⟨vec ws.length f⟩ 62 (0, 0)) :: (bo, Obj.cells ⟨flatR (rows ++ [⟨some ⟨br, 0, none⟩, Lc, rowI ls i⟩]) ++ ro⟩ 30 (0, 0)) :: (B, Obj.deferred (some [])) :: Ds.map opn := by unfold T3.mem; rw [<- hl5]; rfl
   have hDD : ∀ k, D4 k -> T3.D l5 ⟨i + 1, W, B :: Ds, rows ++ [⟨some ⟨br, 0, none⟩, Lc, rowI ls i⟩], .more bo co ro⟩ k := by unfold T3.D; rw [hmem]; exact hm2.allBut (MSub.refl _)
   have hbr := hmm.own (br, _) (by repeat constructor)
   have hbrn : br ∉ (T3.mem l5 ⟨i + 1, W, B :: Ds, rows ++ [⟨some ⟨br, 0, none⟩, Lc, rowI ls i⟩], .more bo co ro⟩).map (·.1) := by
    rw [hmem]
    have hn := hmm.nodup
    simp only [List.map_cons, List.nodup_cons, List.mem_cons, not_or, List.cons_append, List.nil_append] at hn ⊢
    simp only [eq_comm] at hn ⊢
    simp only [hn, not_false_eq_true, and_self, true_and]
   have hbase : w.heap.size <= br := Nat.le_of_not_lt fun h => hbr.1 (q2 br h)
   have hrowA : Ar W (T3.D l5 ⟨i + 1, W, B :: Ds, rows ++ [⟨some ⟨br, 0, none⟩, Lc, rowI ls i⟩], .more bo co ro⟩) (some ⟨br, 0, none⟩) 1 ((rowI ls i).map inE) := Ar.ownH (r := []) (by rw [List.append_nil]; have h9 := hbr.2; rw [ivec_flatI, hrow] at h9; exact h9) (in_len _) hbrn
   refine ⟨⟨i + 1, W, B :: Ds, rows ++ [⟨some ⟨br, 0, none⟩, Lc, rowI ls i⟩], .more bo co ro⟩, ⟨by simp only; omega, by simp only [List.length_append, k2, List.length_cons, List.length_nil], by simp only; rw [List.map_append, k3, List.range_succ, List.map_append]; rfl, q1.trans (hmm.same.mono q2), fun k hk => hDD k (q2 k hk), q3.move hmm.same hDD, fun j hj => (q4 j (by omega)).move hmm.same hDD, fun v hv => ?_, ⟨by simp, by simpa only [List.length_append, k2, List.length_cons, List.length_nil] using hgo⟩⟩, by simp only; omega,
    (show EnvSub _ [(0, .slice (some ⟨bA, oA, none⟩) ws.length cap), (2, .slice (some ⟨bo, 0, none⟩) (i + 1) co), (3, .int .i64 0), (4, .slice TA m tc), (5, .slice (some ⟨bp, 0, none⟩) ws.length ws.length), (6, .pointer (some ⟨bx, 0, none⟩)), (10, .pointer (some ⟨bax, 0, none⟩)), (11, .int .i64 Lc), (119, .slice (some ⟨bA, oA, none⟩) ws.length cap), (120, .int .i64 ws.length), (121, .int .i64 ((i + 1 : Nat) : Int))] from (by repeat (first|exact .nil|refine .cons rfl (by first|rfl|(congr 1; done)|exact congrArg _ (by omega)|(simp; done)) ?_))).sat ha, by unfold T3.D; rw [hmem]; exact hm2.fresh0 (MSub.refl _)⟩
   rcases List.mem_append.1 hv with hv | hv
   ·exact ⟨(q5 v hv).1.move hmm.same hDD, (q5 v hv).2⟩
   ·rw [List.mem_singleton.1 hv]
    exact ⟨hrowA, fun a e => by cases e; exact hbase⟩
end R41
end Go.Proofs

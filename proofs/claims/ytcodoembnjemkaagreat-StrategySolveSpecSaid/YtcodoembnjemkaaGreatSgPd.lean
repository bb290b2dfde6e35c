/- Games on networks: Play walked. -/
import Derived.Test.YtcodoembnjemkaaGreatSgWo
import Derived.Test.YtcodoembnjemkaaGreatSgSq
set_option maxRecDepth 100000
set_option maxHeartbeats 400000000
set_option linter.unusedSectionVars false
set_option linter.unusedVariables false
set_option linter.unusedSimpArgs false
namespace Go.Proofs
open Go.RowKit Go.Kin Go.Kin.St Go.Kin.Ct Go.Kin.Sg
namespace R24
theorem at_castL {w0 W : World} {D : Nat -> Prop} {J : (Nat -> Prop) -> World -> Prop} {mem : List (Nat × Obj)} {b : Nat} {l : List Nat} {r : List Value} {T : TypeId} {fr : Nat × Nat} (hW : SatW w0 D J mem W) (hm : (b, Obj.cells ⟨flI (castL l) ++ r⟩ T fr) ∈ mem) : At W (some ⟨b, 0, none⟩) 1 (l.map nE) := fun i cs hi => by
 rw [<- castL_rows, List.getElem?_map] at hi
 obtain ⟨x, hx, rfl⟩ := Option.map_eq_some_iff.1 hi
 refine ⟨b, 0, rfl, fun j v hj => ?_⟩
 cases j with
 | succ j => cases hj
 | zero =>
  cases hj
  rw [show 0 + i * 1 + 0 = i by omega, hW.cellAt hm]
  exact flI_get hx _
theorem occ_lt {G : Gm} {wt : List Int} {k : Nat} {l : List Int} : ∀ q ∈ occ G wt k l, q < G.n := fun q hq => may_lt (occ_mem.1 hq).1
theorem own_lt {G : Gm} {t : Tab} {k : Nat} {l : List Int} : ∀ q ∈ own G t k l, q < G.n := fun q hq => (free_mem.1 (of_decide_eq_true (List.mem_filter.1 hq).2)).1
theorem Play_calls (u : R23.Un) (T : Int) (S : Option Addr) (cs : Nat) (rows : List DW) (A5 : Option Addr) (cw : Nat) (wt : List Int) (w : World) (hA : u.In w) (hl : u.L.length <= 1000) (hc : u.C.length <= 1000) (hS : StrIn w S rows) (hrl : rows.length <= 10000000) (hdl : ∀ r ∈ rows, r.l.length <= 1000 /\ r.d.length <= 1000) (hwA : At w A5 1 (wt.map inE)) :
  Calls Tryz.prog 16 ⟨[.agg ⟨u.v⟩, .int .i64 T, .slice S rows.length cs, .slice A5 wt.length cw]⟩ w (PlQ u.n u.L u.C T rows wt w) := by
 have hrd : ∀ (mem : List (Nat × Obj)) (W : World), SatW w (base w) noJ mem W -> Calls Tryz.prog 21 ⟨[.agg ⟨u.v⟩, .int .i64 T, .slice S rows.length cs]⟩ W (RdQ u.n u.L u.C T rows W) := fun mem W hW => read_calls u T S cs rows W (hA.sat hW) hl hc (hS.later hW.below) hrl hdl
 have hAl := hA.l
 have hAc := hA.c
 obtain ⟨n, A, ca, L, B, cb, C⟩ := u
 simp only [R23.Un.v] at hl hc hrd ⊢
 simp only at hAl hAc
 refine fEn Tryz.func16 rfl Tryz.ntmps16 rfl rfl (sWn w) ?_
 by_cases h0 : rdC n L C T rows = 0
 rotate_left
 ·repeat (first|refine lVa rfl rfl (by first|exact pEv rfl|exact vLd rfl (by repeat constructor) rfl (by rfl)|fail) ?_|refine lNi ?_|refine cRg ?_|refine cSq ?_|refine xTh ?_|refine r_box rfl rfl rfl rfl (fun _ => ?_)|fail)
  refine r_call (v := .tuple ⟨[.map none, .int .i64 (rdC n L C T rows)]⟩) rfl rfl rfl (fun W hW => (hrd _ W hW).mono ?_) ?_
  ·rintro e w' ⟨h1, h2⟩
   rcases h2 with ⟨_, h3⟩ | ⟨h3, _⟩
   ·exact ⟨h3, h1⟩
   ·exact absurd h3 h0
  repeat (first|refine lVa rfl rfl (by first|exact pEv rfl|fail) ?_|refine lNi ?_|refine cRg ?_|refine cSq ?_|refine xTh ?_|refine c_dec_t rfl (by first|omega|fail) ?_|refine c_ret ?_|refine xTr ?_|fail)
  exact x_ret rfl rfl (by repeat constructor) rfl (fun W hW => ⟨hW.below, .inl ⟨by rw [plc_a h0]; exact h0, by rw [plc_a h0]⟩⟩)
 obtain ⟨hck, hok⟩ := rdC_ok h0
 obtain ⟨c0, t1, t2, t3, t4, t5⟩ := chkS_ok hck
 obtain ⟨n1, n2⟩ := R23.chkU_ok c0
 obtain ⟨t, rfl⟩ : ∃ t : Nat, T = t := ⟨T.toNat, by omega⟩
 obtain ⟨N, rfl⟩ : ∃ N : Nat, n = N := ⟨n.toNat, by omega⟩
 rw [Int.toNat_natCast, Int.toNat_natCast] at hok
 obtain ⟨hn0, hCC⟩ := (tree_gok (A := A) (B := B) (ca := ca) (cb := cb) (m := 0) hck).2
 have hn6 : N <= 6 := (tree_gok (A := A) (B := B) (ca := ca) (cb := cb) (m := 0) hck).1.n
 repeat (first|refine lVa rfl rfl (by first|exact pEv rfl|exact vLd rfl (by repeat constructor) rfl (by rfl)|fail) ?_|refine lNi ?_|refine cRg ?_|refine cSq ?_|refine xTh ?_|refine r_box rfl rfl rfl rfl (fun _ => ?_)|fail)
 refine r_call1 (ι := Nat) (v := fun b => .tuple ⟨[.map (some b), .int .i64 0]⟩) (bk := fun b => b) (o := fun _ => pkO (kvR rows)) rfl rfl rfl (fun W hW => (hrd _ W hW).mono ?_) (fun bm => ?_)
 ·rintro e w' ⟨h1, h2⟩
  rcases h2 with ⟨h3, _⟩ | ⟨_, b, h3, h4, h5⟩
  ·exact absurd h0 h3
  ·exact ⟨b, h3, h1, h4, h5⟩
 by_cases hlen : wt.length = C.length
 rotate_left
 ·have hne : (wt.length : Int) ≠ C.length := by omega
  have hp := plc_1 (n := N) (T := t) (L := L) (C := C) (rows := rows) (wt := wt) h0 (fun h => hlen h.1)
  repeat (first|refine lVa rfl rfl (by first|exact pEv rfl|exact vLd rfl (by repeat constructor) rfl (by rfl)|fail) ?_|refine lNi ?_|refine cRg ?_|refine cSq ?_|refine xTh ?_|refine c_false rfl ?_|refine c_dec_t rfl (by first|omega|fail) ?_|refine cSk ?_|refine c_ret ?_|refine xTr ?_|fail)
  exact x_ret rfl rfl (by repeat constructor) rfl (fun W hW => ⟨hW.below, .inl ⟨by rw [hp]; decide, by rw [hp]⟩⟩)
 have hlenI : ¬ (wt.length : Int) ≠ C.length := by omega
 repeat ((fail_if_success refine c_probe (id := 7) ?_); (fail_if_success refine c_probe1 (id := 7) ?_); first|refine lVa rfl rfl (by first|exact pEv rfl|exact vLd rfl (by repeat constructor) rfl (by rfl)|fail) ?_|refine lNi ?_|refine cRg ?_|refine cSq ?_|refine xTh ?_|refine c_false rfl ?_|refine c_dec_f rfl (by first|omega|fail) ?_|refine cBl ?_|refine cSk ?_|fail)
 rename_i b4 b7
 refine c_loop (ι := Nat) (fun i => i <= C.length /\ ∀ j x, j < i -> C[j]? = some x -> x.lo <= wt.getD j 0 /\ wt.getD j 0 <= x.hi) (fun i => [(1, .int .i64 t), (4, .pointer (some ⟨b4, 0, none⟩)), (7, .pointer (some ⟨b7, 0, none⟩)), (10, .map (some bm)), (35, .slice B C.length cb), (36, .int .i64 C.length), (37, .int .i64 i)])
  (fun _ => [(bm, pkO (kvR rows)), (b7, .cells ⟨[.slice A5 wt.length cw]⟩ 37 (0, 0)), (b4, .cells ⟨[.int .i64 N, .slice A L.length ca, .slice B C.length cb]⟩ 24 (0, 0))]) (fun i => C.length - i) 0 ⟨Nat.zero_le _, fun j x hj => absurd hj (Nat.not_lt_zero _)⟩ (by repeat (first|exact .nil|refine .cons rfl (by first|rfl|(congr 1; done)|exact congrArg _ (by omega)|(simp; done)) ?_)) (by repeat (first|exact .nil|refine .keep (by first|rfl|assumption) ?_|refine .drop ?_|exact MSub.refl _)) ?_
 rintro i ⟨hi, hF⟩
 by_cases hlt : i < C.length
 ·obtain ⟨x, hx⟩ : ∃ x, C[i]? = some x := ⟨_, List.getElem?_eq_getElem hlt⟩
  obtain ⟨v, hv⟩ : ∃ v, wt[i]? = some v := ⟨_, List.getElem?_eq_getElem (by omega)⟩
  have hgd : wt.getD i 0 = v := by rw [List.getD_eq_getElem?_getD, hv]; rfl
  obtain ⟨bB, oB, rfl, hcB⟩ := hAc i (lkE x) (by rw [List.getElem?_map, hx]; rfl)
  obtain ⟨bW, oW, rfl, hcW⟩ := hwA i (inE v) (by rw [List.getElem?_map, hv]; rfl)
  have eB := ext_of hcB
  have eW := ext_of hcW
  rw [Nat.mul_one] at eW
  have hno : ¬ (x.lo <= v /\ v <= x.hi) -> plc N L C t rows wt = 1 := fun h => plc_1 h0 fun g => h (by have := g.2 i x hx; rw [hgd] at this; exact this)
  by_cases h1 : v < x.lo
  ·have hp := hno (by omega)
   repeat (first|refine lVa rfl rfl (by first|exact pEv rfl|exact vL0 rfl (by assumption) rfl (by rfl)|exact v_index rfl rfl rfl rfl (by omega) (by omega) (by with_reducible first|exact idx4 _ _ _|fail)|fail) ?_|refine lNi ?_|refine cRg ?_|refine cSq ?_|refine xTh ?_|refine r_alloc rfl rfl rfl (by first|exact aggL|fail) (fun _ => ?_)|refine rSt rfl rfl rfl rfl rfl rfl rfl (by repeat constructor) (by rfl) ?_|refine c_true rfl ?_|refine c_dec_t rfl (by first|omega|fail) ?_|refine cBl ?_|refine cSk ?_|refine c_ret ?_|refine xTr ?_|refine xBr ?_|refine c_reads rfl (by decide +kernel) ?_|refine q_val rfl rfl (by first|exact pEv rfl|exact vLd rfl (by repeat constructor) rfl (by rfl)|exact vL0 rfl (by assumption) rfl (by rfl)|exact v_index rfl rfl rfl rfl (by omega) (by omega) (by with_reducible first|exact idx2 _ _|fail)|fail) ?_|refine q_nil ?_|refine q_skip rfl rfl ?_|refine q_dec_t rfl rfl rfl rfl (by first|omega|fail) ?_|fail)
   exact x_ret rfl rfl (by repeat constructor) rfl (fun W hW => ⟨hW.below, .inl ⟨by rw [hp]; decide, by rw [hp]⟩⟩)
  ·by_cases h2 : x.hi < v
   ·have hp := hno (by omega)
    repeat (first|refine lVa rfl rfl (by first|exact pEv rfl|exact vL0 rfl (by assumption) rfl (by rfl)|exact v_index rfl rfl rfl rfl (by omega) (by omega) (by with_reducible first|exact idx4 _ _ _|fail)|fail) ?_|refine lNi ?_|refine cRg ?_|refine cSq ?_|refine xTh ?_|refine r_alloc rfl rfl rfl (by first|exact aggL|fail) (fun _ => ?_)|refine rSt rfl rfl rfl rfl rfl rfl rfl (by repeat constructor) (by rfl) ?_|refine c_dec_t rfl (by first|omega|fail) ?_|refine cBl ?_|refine cSk ?_|refine c_ret ?_|refine xTr ?_|refine xBr ?_|refine c_reads rfl (by decide +kernel) ?_|refine q_val rfl rfl (by first|exact pEv rfl|exact vLd rfl (by repeat constructor) rfl (by rfl)|exact vL0 rfl (by assumption) rfl (by rfl)|exact v_index rfl rfl rfl rfl (by omega) (by omega) (by with_reducible first|exact idx2 _ _|fail)|fail) ?_|refine q_nil ?_|refine q_dec_f rfl rfl rfl rfl (by first|omega|fail) ?_|fail)
    exact x_ret rfl rfl (by repeat constructor) rfl (fun W hW => ⟨hW.below, .inl ⟨by rw [hp]; decide, by rw [hp]⟩⟩)
   ·clear hno
    repeat (first|refine lVa rfl rfl (by first|exact v_add rfl rfl (by omega) (by omega)|exact pEv rfl|exact vL0 rfl (by assumption) rfl (by rfl)|exact v_index rfl rfl rfl rfl (by omega) (by omega) (by with_reducible first|exact idx4 _ _ _|fail)|fail) ?_|refine lNi ?_|refine cRg ?_|refine cSq ?_|refine xTh ?_|refine r_alloc rfl rfl rfl (by first|exact aggL|fail) (fun _ => ?_)|refine rSt rfl rfl rfl rfl rfl rfl rfl (by repeat constructor) (by rfl) ?_|refine c_dec_t rfl (by first|omega|fail) ?_|refine c_dec_f rfl (by first|omega|fail) ?_|refine cBl ?_|refine cSk ?_|refine x_block ?_|refine c_reads rfl (by decide +kernel) ?_|refine q_val rfl rfl (by first|exact pEv rfl|exact vLd rfl (by repeat constructor) rfl (by rfl)|exact vL0 rfl (by assumption) rfl (by rfl)|exact v_index rfl rfl rfl rfl (by omega) (by omega) (by with_reducible first|exact idx2 _ _|fail)|fail) ?_|refine q_nil ?_|refine q_dec_f rfl rfl rfl rfl (by first|omega|fail) ?_|fail)
    refine x_back (i + 1) ⟨hlt, fun j y hj hy => ?_⟩ (by omega) (by repeat (first|exact .nil|refine .cons rfl (by first|rfl|(congr 1; done)|exact congrArg _ (by omega)|(simp; done)) ?_)) (by repeat (first|exact .nil|refine .keep (by first|rfl|assumption) ?_|refine .drop ?_|exact MSub.refl _))
    by_cases hji : j < i
    ·exact hF j y hji hy
    ·have e : j = i := by omega
     subst e
     rw [hx] at hy; cases hy
     rw [hgd]; omega
 have hwOK : wt.length = C.length /\ ∀ i x, C[i]? = some x -> x.lo <= wt.getD i 0 /\ wt.getD i 0 <= x.hi := ⟨hlen, fun j x hx => hF j x (by have := (List.getElem?_eq_some_iff.1 hx).1; omega) hx⟩
 have hp0 := plc_0 (n := N) (T := t) (L := L) h0 hwOK
 clear hF
 repeat (first|refine lVa rfl rfl (by first|exact pEv rfl|exact vLd rfl (by repeat constructor) rfl (by rfl)|fail) ?_|refine lNi ?_|refine cRg ?_|refine cSq ?_|refine xTh ?_|refine c_dec_f rfl (by first|omega|fail) ?_|refine c_exit ?_|refine xTe ?_|refine xBs ?_|fail)
 refine r_call2 (ι := Nat × Nat) (v := fun i => .pointer (some ⟨i.1, 0, none⟩)) (bk := fun i => i.1) (bk2 := fun i => i.2) (o := fun i => .cells ⟨(GB.mk N t L C A B ca cb i.2).cells⟩ 80 (0, 0)) (o2 := fun _ => .map ⟨[]⟩ 0) rfl rfl rfl (fun W hW => (open_calls N t A B ca cb L C W hn6 hCC hc (hAc.sat hW)).mono ?_) ?_
 ·rintro e w' ⟨a, m, e1, e2, e3, e4, e5, e6, e7⟩
  exact ⟨(a, m), e1, e2, e4, e6, e5, e7, fun h => e3 h.symm⟩
 rintro ⟨a, m⟩
 simp only
 obtain ⟨b, hb⟩ : ∃ b : GB, b = ⟨N, t, L, C, A, B, ca, cb, m⟩ := ⟨_, rfl⟩
 have hG : GOK b := by rw [hb]; exact (tree_gok hck).1
 have hbT : b.T = t := by rw [hb]
 have hbn : b.n = N := by rw [hb]
 have hbC : b.C = C := by rw [hb]
 have hbg : b.g = ⟨N, t, L, C⟩ := by rw [hb]
 have hbB : b.B = B /\ b.cb = cb := by rw [hb]; exact ⟨rfl, rfl⟩
 rw [<- hb]
 repeat (first|refine r_alloc rfl rfl rfl (plC_zero rfl) (fun _ => ?_)|refine r_alloc rfl rfl rfl rfl (fun _ => ?_)|refine lNi ?_|refine cRg ?_|refine cSq ?_|refine xTh ?_|refine rSt rfl rfl rfl rfl rfl rfl rfl (by repeat constructor) (by rfl) ?_|refine cBl ?_|fail)
 rename_i b13 b14
 obtain ⟨pa, hpa⟩ : ∃ pa, plA ⟨N, t, L, C⟩ wt (tabW rows) = pa := ⟨_, rfl⟩
 refine c_loop (ι := Nat × List Int) (fun s => s.1 <= t + 1 /\ PosN b s.2 /\ plF b.g wt (tabW rows) (t + 1 - s.1) s.1 s.2 = pa) (fun s => [(1, .int .i64 t), (4, .pointer (some ⟨b4, 0, none⟩)), (7, .pointer (some ⟨b7, 0, none⟩)), (10, .map (some bm)), (13, .pointer (some ⟨b13, 0, none⟩)), (14, .pointer (some ⟨b14, 0, none⟩))])
  (fun s => [(b14, .cells ⟨plC s.1 (kn s.2)⟩ 54 (0, 0)), (b13, .cells ⟨[.pointer (some ⟨a, 0, none⟩)]⟩ 49 (0, 0)), (a, .cells ⟨b.cells⟩ 80 (0, 0)), (bm, pkO (kvR rows)), (b7, .cells ⟨[.slice A5 wt.length cw]⟩ 37 (0, 0)), (b4, .cells ⟨[.int .i64 N, .slice A L.length ca, .slice B C.length cb]⟩ 24 (0, 0))]) (fun s => t + 1 - s.1) (0, List.replicate N 0)
  ⟨Nat.zero_le _, by rw [<- hbn]; exact (rep_pos b).1, by rw [<- hpa, hbg]; rfl⟩ (by repeat (first|exact .nil|refine .cons rfl (by first|rfl|(congr 1; done)|exact congrArg _ (by omega)|(simp; done)) ?_)) (by rw [show plC (((0, List.replicate N (0 : Int)) : Nat × List Int).1 : Int) (kn ((0, List.replicate N (0 : Int)) : Nat × List Int).2) = plC 0 (fun _ => 0) from plE_zero]; exact (by repeat (first|exact .nil|refine .keep (by first|rfl|assumption) ?_|refine .drop ?_|exact MSub.refl _))) ?_
 rintro ⟨k, l⟩ ⟨hk, hl1, hpl⟩
 simp only at hk hl1 hpl ⊢
 by_cases hkt : k <= t
 ·obtain ⟨l1, hq1⟩ : ∃ l1, put l (occ b.g wt k l) ((k : Int) + 1) = l1 := ⟨_, rfl⟩
  obtain ⟨l2, hq2⟩ : ∃ l2, put l1 (own b.g (tabW rows) k l1) ((k : Int) + 1) = l2 := ⟨_, rfl⟩
  have hps1 : PosN b l1 := by rw [<- hq1]; exact hl1.put (by omega)
  have hps2 : PosN b l2 := by rw [<- hq2]; exact hps1.put (by omega)
  have hstep : plS b.g wt (tabW rows) k l = l2 := by rw [<- hq2, <- hq1]; rfl
  have hpl2 : plF b.g wt (tabW rows) (t + 1 - (k + 1)) (k + 1) l2 = pa := by
   rw [show t + 1 - k = (t + 1 - (k + 1)) + 1 by omega, plF, hstep] at hpl; exact hpl
  have hf1 : putF (kn l) (occ b.g wt k l) ((k : Int) + 1) = kn l1 := by rw [<- hq1]; exact putF_kn fun x hx => by have := occ_lt x hx; have := hl1.1; exact Nat.lt_of_lt_of_eq (occ_lt x hx) this.symm
  have hf2 : putF (kn l1) (own b.g (tabW rows) k l1) ((k : Int) + 1) = kn l2 := by rw [<- hq2]; exact putF_kn fun x hx => by have := hps1.1; exact Nat.lt_of_lt_of_eq (own_lt x hx) this.symm
  have hoc6 : ∀ q ∈ occ b.g wt k l, q < 6 := fun q hq => by have : q < b.n := occ_lt q hq; omega
  have how6 : ∀ q ∈ own b.g (tabW rows) k l1, q < 6 := fun q hq => by have : q < b.n := own_lt q hq; omega
  have hocl : (occ b.g wt k l).length <= 1000 := Nat.le_trans (Nat.le_trans (List.length_filter_le _ _) may_len) (by have : b.g.n = N := hbn; omega)
  have hga : ∀ {D : Nat -> Prop} {mem : List (Nat × Obj)} {W : World}, SatW w (base w) noJ mem W -> (a, Obj.cells ⟨b.cells⟩ 80 (0, 0)) ∈ mem -> GIn b a W := fun {D mem W} hW hm =>
   ⟨fun j v hj => by rw [hW.cellAt hm]; exact hj, by rw [hb]; exact hAl.sat hW, by rw [hb]; exact hAc.sat hW⟩
  have hml : (may b.g k l).length <= 6 := Nat.le_trans may_len (by show b.n <= 6; omega)
  repeat ((fail_if_success refine c_probe (id := 16) ?_); (fail_if_success refine c_probe1 (id := 16) ?_); first|refine lVa rfl rfl (by first|exact pEv rfl|exact vLd rfl (by repeat constructor) rfl (by rfl)|fail) ?_|refine lNi ?_|refine cRg ?_|refine cSq ?_|refine xTh ?_|refine c_dec_t rfl (by first|omega|fail) ?_|refine cBl ?_|refine cSk ?_|fail)
  repeat refine cSq ?_
  repeat (first|refine lVa rfl rfl (by first|exact vLd rfl (by repeat constructor) rfl (by rfl)|fail) ?_|refine cRg ?_|fail)
  refine r_callL (ι := { i : M2 // gOK nE 1 (may b.g k l) i.c i.r /\ gOK nE 1 (Sg.due b.g k l) i.c' i.r' }) (v := fun i => .tuple ⟨[gSl (may b.g k l) i.1.b i.1.c, gSl (Sg.due b.g k l) i.1.b' i.1.c']⟩) (ms := fun i => gM nE 3 (may b.g k l) i.1.b i.1.r ++ gM nE 3 (Sg.due b.g k l) i.1.b' i.1.r') rfl rfl rfl (fun W hW => ?_) ?_
  ·have h := may_calls b a k (kn l) W (by omega) (by omega) (fun q => by have := hl1.kn q; omega) hG.r hG.c (hga (D := fun _ => True) hW (by repeat constructor))
   rw [may_flt, due_flt] at h
   refine h.mono ?_
   rintro e w' ⟨b1, c1, r1, b2, c2, r2, h1, h2, h3, h4, h5, h6⟩
   exact ⟨⟨⟨b1, c1, r1, b2, c2, r2⟩, h2, h3⟩, h1, h4, h6, h5⟩
  rintro ⟨⟨b1, c1, r1, b2, c2, r2⟩, hg1, hg2⟩
  simp only at hg1 hg2 ⊢
  repeat ((fail_if_success refine c_probe (id := 17) ?_); (fail_if_success refine c_probe1 (id := 17) ?_); first|refine lVa rfl rfl (by first|exact pEv rfl|fail) ?_|refine lNi ?_|refine xTh ?_|fail)
  refine c_perm List.perm_append_comm ?_
  simp only [List.cons_append, List.nil_append]
  have hcap : ∀ {p : Nat × Obj} {D : Nat -> Prop} {mem : List (Nat × Obj)} {W W' : World}, SatW w (base w) noJ (p :: mem) W -> Same (allBut W [p.1]) W W' -> (a, Obj.cells ⟨b.cells⟩ 80 (0, 0)) ∈ mem -> (b13, Obj.cells ⟨[.pointer (some ⟨a, 0, none⟩)]⟩ 49 (0, 0)) ∈ mem -> (b14, Obj.cells ⟨plC k (kn l)⟩ 54 (0, 0)) ∈ mem -> (b7, Obj.cells ⟨[.slice A5 wt.length cw]⟩ 37 (0, 0)) ∈ mem -> (b4, Obj.cells ⟨[.int .i64 N, .slice A L.length ca, .slice B C.length cb]⟩ 24 (0, 0)) ∈ mem ->
    ∀ x ∈ castL (may b.g k l), Calls Tryz.prog 42 ⟨[] ++ [.int .i64 x] ++ [.pointer (some ⟨b13, 0, none⟩), .pointer (some ⟨b14, 0, none⟩), .pointer (some ⟨b4, 0, none⟩), .pointer (some ⟨b7, 0, none⟩)]⟩ W' fun e w' => e = .returned (.bool (wtB b.C wt k (kn l) x)) /\ Below W'.heap.size W' w' := fun {p D mem W W'} hW hS m1 m2 m3 m4 m5 => by
   have hW2 := sat_but hW hS
   exact wait31_any b a b13 b14 b4 b7 k l A5 cw wt hG (by omega) hl1 (by rw [hbC]; exact hlen) W' (hga (D := D) hW2 m1) (hW2.cellAt m2 0) (fun j u hj => by rw [hW2.cellAt m3]; exact hj) (by rw [hbB.1, hbB.2, hbC]; exact hW2.cellAt m5 2) (hW2.cellAt m4 0) (hwA.sat hW2)
  refine cSq ?_
  refine c_share [(1, .int .i64 t), (4, .pointer (some ⟨b4, 0, none⟩)), (7, .pointer (some ⟨b7, 0, none⟩)), (10, .map (some bm)), (13, .pointer (some ⟨b13, 0, none⟩)), (14, .pointer (some ⟨b14, 0, none⟩))]
   [(b14, .cells ⟨plC k (kn l1)⟩ 54 (0, 0)), (b13, .cells ⟨[.pointer (some ⟨a, 0, none⟩)]⟩ 49 (0, 0)), (a, .cells ⟨b.cells⟩ 80 (0, 0)), (bm, pkO (kvR rows)), (b7, .cells ⟨[.slice A5 wt.length cw]⟩ 37 (0, 0)), (b4, .cells ⟨[.int .i64 N, .slice A L.length ca, .slice B C.length cb]⟩ 24 (0, 0))] ?_ (fun hsh => ?_)
  rotate_left
  ·have hoc := wtB_occ (G := b.g) (wt := wt) (k := k) (l := l)
   obtain ⟨oc, hoce⟩ : ∃ oc, occ b.g wt k l = oc := ⟨_, rfl⟩
   rw [hoce] at hoc hf1 hoc6 hocl
   obtain ⟨my, hmy⟩ : ∃ my, may b.g k l = my := ⟨_, rfl⟩
   rw [hmy] at hoc hcap hml hg1 ⊢
   cases my with
   | nil =>
    have hoc0 : oc = [] := by cases oc with
     | nil => rfl
     | cons x oc => cases hoc
    subst hoc0
    refine c_sub _ (List.sublist_append_left [_, _, _, _, _, _] _) ?_
    refine c_new 1 0 [(3, .cal (.slice none 0 0)), (4, .cal (.agg ⟨plC k (kn l1)⟩)), (5, .sto 0 0 7)] [(3, []), (4, []), (5, [0])] [(0, 0)] rfl (by decide +kernel) rfl ?_
    repeat (first|refine e_val rfl rfl rfl rfl (by first|exact pEv rfl|exact vLd rfl (by repeat constructor) rfl (by rfl)|fail) ?_|fail)
    refine e_call rfl rfl rfl rfl rfl (fun W hW => delete0_calls 42 _ _ W) ?_
    refine e_call rfl rfl rfl rfl rfl (fun W hW => ?_) ?_
    ·have := with_calls k (kn l) [] none 0 W (by omega) hoc6 hocl (fun i r h => by simp at h)
     rw [hf1] at this
     exact this
    repeat (first|refine e_store (vs := plC _ _) rfl rfl rfl rfl rfl plC_beq plC_one rfl rfl rfl rfl (by rw [plC_len]; decide) (splice_all (plC_len.trans plC_len.symm)) ?_|exact hsh (by repeat (first|exact .nil|refine .cons rfl (by first|rfl|(congr 1; done)|exact congrArg _ (by omega)|(simp; done)) ?_)) (by repeat (first|exact .nil|refine .keep (by first|rfl|assumption) ?_|refine .drop ?_|exact MSub.refl _))|refine e_nil rfl ?_|fail)
   | cons y my =>
    have hgr := hg1 (List.cons_ne_nil _ _)
    have hkey : ∀ {L1 L2 : List (Nat × Obj)}, (L1 ++ (gM nE 3 (y :: my) b1 r1 ++ L2)).Perm (gM nE 3 (y :: my) b1 r1 ++ (L1 ++ L2)) := List.perm_append_comm_assoc _ _ _
    refine c_perm (List.perm_append_comm_assoc [_, _, _, _, _, _] (gM nE 3 (y :: my) b1 r1) _) ?_
    show RunC _ _ _ _ _ _ ((b1, Obj.cells ⟨((y :: my).map nE).flatten ++ r1⟩ 3 (0, 0)) :: ([_, _, _, _, _, _] ++ _))
    refine c_sub [_, _, _, _, _, _, _] (List.Sublist.cons_cons _ (List.sublist_append_left _ _)) ?_
    rw [<- castL_flI]
    refine c_new 2 0 [(3, .calW 0 (dlV oc.length) (dlO (castL oc))), (4, .cal (.agg ⟨plC k (kn l1)⟩)), (5, .sto 1 0 7)] [(3, [0]), (4, []), (5, [1])] [(0, 1), (3, 0), (3, 1), (4, 0)] rfl (by decide +kernel) rfl ?_
    repeat (first|refine e_val rfl rfl rfl rfl (by first|exact pEv rfl|exact vLd rfl (by repeat constructor) rfl (by rfl)|fail) ?_|fail)
    refine e_callW rfl rfl rfl rfl rfl rfl (fun W hW hbW => ?_) (fun π => ?_)
    ·have h := delW (w0 := w) (D := base w) 42 [] [.pointer (some ⟨b13, 0, none⟩), .pointer (some ⟨b14, 0, none⟩), .pointer (some ⟨b4, 0, none⟩), .pointer (some ⟨b7, 0, none⟩)] (wtB b.C wt k (kn l)) b1 c1 (castL (y :: my)) r1 W (by rw [castL_len, castL_flI]; exact hgr) (by rw [castL_len]; omega) hbW (fun x hx W' hS' => hcap (D := fun _ => True) hW hS' (by repeat constructor) (by repeat constructor) (by repeat constructor) (by repeat constructor) (by repeat constructor) x hx)
     rw [show (castL (y :: my)).filter (fun x => !wtB b.C wt k (kn l) x) = castL oc from hoc, castL_len, castL_len] at h
     exact h
    refine e_call rfl rfl rfl rfl rfl (fun W hW => ?_) ?_
    ·have := with_calls k (kn l) oc (some ⟨b1, 0, none⟩) c1 W (by omega) hoc6 hocl (at_castL hW (b := b1) (by repeat constructor))
     rw [hf1] at this
     exact this
    repeat (first|refine e_store (vs := plC _ _) rfl rfl rfl rfl rfl plC_beq plC_one rfl rfl rfl rfl (by rw [plC_len]; decide) (splice_all (plC_len.trans plC_len.symm)) ?_|exact hsh (by repeat (first|exact .nil|refine .cons rfl (by first|rfl|(congr 1; done)|exact congrArg _ (by omega)|(simp; done)) ?_)) (by repeat (first|exact .nil|refine .keep (by first|rfl|assumption) ?_|refine .drop ?_|exact MSub.refl _))|refine e_nil rfl ?_|fail)
  repeat ((fail_if_success refine c_probe (id := 18) ?_); (fail_if_success refine c_probe1 (id := 18) ?_); first|refine xTh ?_|fail)
  refine cSq ?_
  obtain ⟨fr, hfr⟩ : ∃ fr, free b.g l1 = fr := ⟨_, rfl⟩
  have hfr6 : fr.length <= 6 := by rw [<- hfr]; exact Nat.le_trans free_len (by show b.n <= 6; omega)
  repeat (first|refine lVa rfl rfl (by first|exact vLd rfl (by repeat constructor) rfl (by rfl)|fail) ?_|refine cRg ?_|fail)
  refine r_callL (ι := { i : PlI // gOK nE 1 fr i.c i.r }) (v := fun i => gSl fr i.1.b i.1.c) (ms := fun i => gM nE 3 fr i.1.b i.1.r) rfl rfl rfl (fun W hW => ?_) ?_
  ·have h := free_calls b a k (kn l1) W (by omega) (hga (D := fun _ => True) hW (by repeat constructor))
   rw [free_flt, hfr] at h
   refine h.mono ?_
   rintro e w' ⟨b1, c1, r1, h1, h2, h3, h4⟩
   refine ⟨⟨⟨b1, c1, r1⟩, h2⟩, h1, h3, ?_, ?_⟩
   ·cases fr with
    | nil => exact List.nodup_nil
    | cons y fr => simp [gM]
   ·intro p hp
    cases fr with
    | nil => cases hp
    | cons y fr => rw [List.mem_singleton.1 hp]; exact h4 (List.cons_ne_nil _ _)
  rintro ⟨⟨bf, cf, rf⟩, hgf⟩
  simp only at hgf ⊢
  obtain ⟨A6, c6, hA6⟩ := gSl_len (l := fr) (b := bf) (cap := cf)
  rw [hA6]
  refine l_perm List.perm_append_comm ?_
  simp only [List.cons_append, List.nil_append]
  repeat ((fail_if_success refine c_lone (id := 19) ?_); first|refine r_alloc rfl rfl rfl rfl (fun _ => ?_)|refine lNi ?_|refine xTh ?_|refine rSt rfl rfl rfl rfl rfl rfl rfl (by repeat constructor) (by rfl) ?_|fail)
  rename_i b17
  have hrl : ∀ r ∈ rows, r.l.length = N := fun r hr => by
   obtain ⟨j, hj, hrj⟩ := List.mem_iff_getElem.1 hr
   exact (hok j r (by rw [List.getElem?_eq_getElem hj, hrj])).l
  have hlk : ∀ {mem : List (Nat × Obj)} {W W' : World} {p : Nat × Obj}, SatW w (base w) noJ (p :: mem) W -> Same (allBut W [p.1]) W W' -> (b17, Obj.cells ⟨[.slice A6 fr.length c6]⟩ 37 (0, 0)) ∈ mem -> (∀ p ∈ gM nE 3 fr bf rf, p ∈ mem) -> ∀ v, Calls Tryz.prog 44 ⟨[] ++ [.int .i64 v] ++ [.pointer (some ⟨b17, 0, none⟩)]⟩ W' fun e w' => e = .returned (.bool (!(castL fr).contains v)) /\ Below W'.heap.size W' w' := fun {mem W W' p} hW hS m1 m2 v => by
   have hW2 := sat_but hW hS
   obtain ⟨A', c', hA', hat⟩ := gSl_at (cap := cf) hW2 m2
   rw [hA6] at hA'
   cases hA'
   have := lacks34_calls v b17 A6 c6 (castL fr) W' (by rw [castL_len]; exact hW2.cellAt m1 0) (by rw [castL_rows]; exact hat) (by rw [castL_len]; omega)
   exact this
  have hown := own_cast (G := b.g) (t := tabW rows) (k := k) (l := l1)
  have hownd : own b.g (tabW rows) k l1 = (doD (tabW rows) k l1).filter fun q => decide (q ∈ free b.g l1) := rfl
  obtain ⟨ow, howe⟩ : ∃ ow, own b.g (tabW rows) k l1 = ow := ⟨_, rfl⟩
  rw [howe] at hown hf2 how6 hownd
  rw [hfr] at hown hownd
  refine c_share [(1, .int .i64 t), (4, .pointer (some ⟨b4, 0, none⟩)), (7, .pointer (some ⟨b7, 0, none⟩)), (10, .map (some bm)), (13, .pointer (some ⟨b13, 0, none⟩)), (14, .pointer (some ⟨b14, 0, none⟩))]
   [(b14, .cells ⟨plC k (kn l2)⟩ 54 (0, 0)), (b13, .cells ⟨[.pointer (some ⟨a, 0, none⟩)]⟩ 49 (0, 0)), (a, .cells ⟨b.cells⟩ 80 (0, 0)), (bm, pkO (kvR rows)), (b7, .cells ⟨[.slice A5 wt.length cw]⟩ 37 (0, 0)), (b4, .cells ⟨[.int .i64 N, .slice A L.length ca, .slice B C.length cb]⟩ 24 (0, 0))] ?_ (fun hsh => ?_)
  rotate_left
  ·refine c_perm (List.Perm.swap _ _ _) ?_
   cases hr : rowOf rows k l1 with
   | none =>
    have hd0 : doD (tabW rows) k l1 = [] := by unfold doD tabW; rw [hr]; rfl
    have how0 : ow = [] := by rw [hownd, hd0]; rfl
    subst how0
    have hlook : (match pkGet (kvR rows) k (kn l1) with | some v => (match false with | true => Value.tuple ⟨[v, .bool true]⟩ | false => v) | none => (match false with | true => Value.tuple ⟨[.slice none 0 0, .bool false]⟩ | false => .slice none 0 0)) = .slice none 0 0 := by
     rw [kvR_get hn6 (by rw [hps1.1, hbn]) k hrl, hr]; rfl
    refine c_new 1 0 [(4, .cal (.slice none 0 0)), (6, .cal (.slice none 0 0)), (7, .cal (.agg ⟨plC k (kn l2)⟩)), (8, .sto 0 0 7)] [(4, []), (6, []), (7, []), (8, [0])] [(0, 0), (2, 0)] rfl (by decide +kernel) rfl ?_
    repeat (first|refine e_val rfl rfl rfl rfl (by first|exact pEv rfl|exact vLd rfl (by repeat constructor) rfl (by rfl)|fail) ?_|refine e_val rfl rfl rfl rfl (v_pkGet (k := k) (f := kn l1) (s := kvR rows) rfl rfl rfl pk67 rfl (by repeat constructor) hlook) ?_|fail)
    refine e_call rfl rfl rfl rfl rfl (fun W hW => clone0_calls W) ?_
    repeat (first|refine e_val rfl rfl rfl rfl (by first|exact pEv rfl|fail) ?_|fail)
    refine e_call rfl rfl rfl rfl rfl (fun W hW => delete0_calls 44 _ _ W) ?_
    refine e_call rfl rfl rfl rfl rfl (fun W hW => ?_) ?_
    ·have := with_calls k (kn l1) [] none 0 W (by omega) how6 (by decide) (fun i r h => by simp at h)
     rw [hf2] at this
     exact this
    repeat (first|refine e_store (vs := plC _ _) rfl rfl rfl rfl rfl plC_beq plC_one rfl rfl rfl rfl (by rw [plC_len]; decide) (splice_all (plC_len.trans plC_len.symm)) ?_|exact hsh (by repeat (first|exact .nil|refine .cons rfl (by first|rfl|(congr 1; done)|exact congrArg _ (by omega)|(simp; done)) ?_)) (by repeat (first|exact .nil|refine .keep (by first|rfl|assumption) ?_|refine .drop ?_|exact MSub.refl _))|refine e_nil rfl ?_|fail)
   | some r =>
    obtain ⟨hrm, _, _⟩ := rowOf_some hr
    obtain ⟨j, hj, hrj⟩ := List.mem_iff_getElem.1 hrm
    have hrok := hok j r (by rw [List.getElem?_eq_getElem hj, hrj])
    have hd0 : castL (doD (tabW rows) k l1) = r.d := by
     unfold doD tabW; rw [hr]; exact toN_back hrok.o
    rw [hd0] at hown
    have hatd := hS.d r hrm
    obtain ⟨bd, od, hDe, _⟩ := at_cells hatd hrok.d
    rw [hDe] at hatd
    have hdlr := (hdl r hrm).2
    have howl : ow.length <= 1000 := by rw [<- castL_len, <- hown]; exact Nat.le_trans (List.length_filter_le _ _) hdlr
    have hlook : (match pkGet (kvR rows) k (kn l1) with | some v => (match false with | true => Value.tuple ⟨[v, .bool true]⟩ | false => v) | none => (match false with | true => Value.tuple ⟨[.slice none 0 0, .bool false]⟩ | false => .slice none 0 0)) = .slice (some ⟨bd, od, none⟩) r.d.length r.cd := by
     rw [kvR_get hn6 (by rw [hps1.1, hbn]) k hrl, hr, <- hDe]; rfl
    refine c_new 1 1 [(4, .calA 1 1 r.d.length (flI r.d) 3), (6, .calW 1 (dlV ow.length) (dlO (castL ow))), (7, .cal (.agg ⟨plC k (kn l2)⟩)), (8, .sto 0 0 7)] [(4, [1]), (6, [1]), (7, []), (8, [0])] [(0, 0), (2, 0), (6, 1), (7, 1)] rfl (by decide +kernel) rfl ?_
    repeat (first|refine e_val rfl rfl rfl rfl (by first|exact pEv rfl|exact vLd rfl (by repeat constructor) rfl (by rfl)|fail) ?_|refine e_val rfl rfl rfl rfl (v_pkGet (k := k) (f := kn l1) (s := kvR rows) rfl rfl rfl pk67 rfl (by repeat constructor) hlook) ?_|fail)
    refine e_callA rfl rfl rfl rfl rfl (by decide) flI_len (by unfold maxLen; omega) rfl (fun W hW => ?_) (fun b1 c1 r1 hgr => ?_)
    ·exact clone_calls bd od r.cd r.d W (hatd.sat hW) hrok.d hdlr
    repeat (first|refine e_val rfl rfl rfl rfl (by first|exact pEv rfl|fail) ?_|fail)
    refine e_callW rfl rfl rfl rfl rfl rfl (fun W hW hbW => ?_) (fun π => ?_)
    ·have h := delW (w0 := w) (D := base w) 44 [] [.pointer (some ⟨b17, 0, none⟩)] (fun v => !(castL fr).contains v) b1 c1 r.d r1 W hgr hdlr hbW (fun x hx W' hS' => hlk hW hS' (by repeat constructor) (fun p hp => by first|exact List.mem_cons_of_mem _ hp|exact List.mem_append_right _ hp|(simp only [List.mem_cons]; exact .inr (.inr (.inr (.inr (.inr (.inr (.inr hp)))))))|(simp only [List.mem_cons]; exact .inr (.inr (.inr (.inr (.inr (.inr hp))))))|(simp only [List.mem_cons]; exact .inr (.inr (.inr (.inr (.inr hp)))))) x)
     rw [show r.d.filter (fun x => !(fun v => !(castL fr).contains v) x) = castL ow from hown, castL_len] at h
     exact h
    refine e_call rfl rfl rfl rfl rfl (fun W hW => ?_) ?_
    ·have := with_calls k (kn l1) ow (some ⟨b1, 0, none⟩) c1 W (by omega) how6 howl (at_castL hW (b := b1) (by repeat constructor))
     rw [hf2] at this
     exact this
    repeat (first|refine e_store (vs := plC _ _) rfl rfl rfl rfl rfl plC_beq plC_one rfl rfl rfl rfl (by rw [plC_len]; decide) (splice_all (plC_len.trans plC_len.symm)) ?_|exact hsh (by repeat (first|exact .nil|refine .cons rfl (by first|rfl|(congr 1; done)|exact congrArg _ (by omega)|(simp; done)) ?_)) (by repeat (first|exact .nil|refine .keep (by first|rfl|assumption) ?_|refine .drop ?_|exact MSub.refl _))|refine e_nil rfl ?_|fail)
  have ekk : (((k + 1 : Nat)) : Int) = (k : Int) + 1 := by omega
  repeat (first|refine r_store_at rfl rfl rfl rfl rfl rfl (by repeat constructor) (by rw [plC_len]; omega) plC_set0 ?_|refine lVa rfl rfl (by first|exact v_add rfl rfl (by omega) (by omega)|exact pEv rfl|exact vLd rfl (by repeat constructor) rfl (by rfl)|fail) ?_|refine lNi ?_|refine cRg ?_|refine xTh ?_|refine x_block ?_|fail)
  rw [<- ekk]
  exact x_back (k + 1, l2) ⟨by omega, hps2, hpl2⟩ (by simp only; omega) (by repeat (first|exact .nil|refine .cons rfl (by first|rfl|(congr 1; done)|exact congrArg _ (by omega)|(simp; done)) ?_)) (by repeat (first|exact .nil|refine .keep (by first|rfl|assumption) ?_|refine .drop ?_|exact MSub.refl _))
 ·have hkT : k = t + 1 := by omega
  subst hkT
  have hla : l = pa := by rw [<- hpl, Nat.sub_self]; rfl
  subst hla
  have hlne : l ≠ [] := fun e => by have := hl1.1; rw [e, hbn] at this; simp at this; omega
  have hll : l.length = N := by rw [hl1.1, hbn]
  repeat (first|refine lVa rfl rfl (by first|exact pEv rfl|exact vLd rfl (by repeat constructor) rfl (by rfl)|fail) ?_|refine lNi ?_|refine cRg ?_|refine cSq ?_|refine xTh ?_|refine c_dec_f rfl (by first|omega|fail) ?_|refine c_exit ?_|refine xTe ?_|refine xBs ?_|refine lVa rfl rfl (v_sliceArr rfl rfl rfl rfl rfl hn6) ?_|fail)
  rw [<- hll] at hp0 hpa ⊢
  refine r_call1 (ι := PlI) (v := fun i => .slice (some ⟨i.b, 0, none⟩) l.length i.c) (bk := fun i => i.b) (o := fun i => .cells ⟨flI l ++ i.r⟩ 3 (0, 0)) rfl rfl rfl (fun W hW => (clone_calls b14 (0 + 1) 6 l W (kn_rows (k := (t + 1 : Nat)) (fun i v hi => by rw [hW.cellAt (b := b14) (by repeat constructor) i]; exact hi) (by omega)) hlne (by omega)).mono ?_) (fun i => ?_)
  ·rintro e w' ⟨b1, c1, r1, h1, h2, h3, h4, h5⟩
   exact ⟨⟨b1, c1, r1⟩, h1, h3, h4, h5⟩
  repeat (first|refine lVa rfl rfl (by first|exact pEv rfl|fail) ?_|refine lNi ?_|refine xTh ?_|refine c_ret ?_|fail)
  refine x_ret rfl rfl (by repeat constructor) rfl (fun W hW => ⟨hW.below, .inr ⟨hp0, i, ?_, ?_⟩⟩)
  ·rw [Int.toNat_natCast, Int.toNat_natCast, hpa]
  ·have h := hW.own (i.b, .cells ⟨flI l ++ i.r⟩ 3 (0, 0)) (by repeat constructor)
   rw [Int.toNat_natCast, Int.toNat_natCast, hpa]
   exact ⟨Nat.le_of_not_lt h.1, h.2⟩
end R24
end Go.Proofs

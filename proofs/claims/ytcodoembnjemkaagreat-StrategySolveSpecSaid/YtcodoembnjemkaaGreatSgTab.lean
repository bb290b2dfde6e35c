/- Games on networks: a game is opened. -/
import Derived.Test.YtcodoembnjemkaaGreatSgB
import Derived.Test.YtcodoembnjemkaaGreatSgInto
set_option maxRecDepth 100000
set_option maxHeartbeats 400000000
set_option linter.unusedSectionVars false
set_option linter.unusedVariables false
set_option linter.unusedSimpArgs false
namespace Go.Proofs
open Go.RowKit Go.Kin Go.Kin.St Go.Kin.Ct Go.Kin.Sg
namespace R24
theorem fI_iv {C : List Lk} : fI C C.length = iv C := by
 funext q
 unfold fI iv
 rw [List.take_length]
 cases into C (q : Int) <;> rfl
def gmC (n : Int) (A B : Option Addr) (ll lc ca cb : Nat) (T : Int) (f : Nat -> Int) (m : Nat) : List Value := [.int .i64 n, .slice A ll ca, .slice B lc cb] ++ .int .i64 T :: (ivec 6 f ++ [.map (some m)])
theorem gmC_len {n : Int} {A B : Option Addr} {ll lc ca cb : Nat} {T : Int} {f : Nat -> Int} {m : Nat} : (gmC n A B ll lc ca cb T f m).length = 11 := by
 unfold gmC
 simp [ivec_length]
theorem gmC_set {n : Int} {A B : Option Addr} {ll lc ca cb : Nat} {T : Int} {f : Nat -> Int} {m q : Nat} {v : Int} (h : q < 6) : (gmC n A B ll lc ca cb T f m).set (4 + q) (.int .i64 v) = gmC n A B ll lc ca cb T (iset f q v) m := by
 unfold gmC
 rw [List.set_append_right _ _ (by simp; omega)]
 rw [show 4 + q - [Value.int .i64 n, .slice A ll ca, .slice B lc cb].length = q + 1 by simp; omega, List.set_cons_succ, List.set_append_left _ _ (by rw [ivec_length]; exact h), ivec_set]
theorem open_calls (n T : Nat) (A B : Option Addr) (ca cb : Nat) (L C : List Lk) (w : World) (hn : n <= 6) (hC : ∀ i x, C[i]? = some x -> Cal n x /\ into C x.to = some i) (hc : C.length <= 1000) (hB : At w B 4 (C.map lkE)) :
  Calls Tryz.prog 22 ⟨[.agg ⟨[.int .i64 n, .slice A L.length ca, .slice B C.length cb]⟩, .int .i64 T]⟩ w fun e w' => ∃ a m, e = .returned (.pointer (some ⟨a, 0, none⟩)) /\ Below w.heap.size w w' /\ a ≠ m /\ w.heap.size <= a /\ w.heap.size <= m /\ w'.heap[a]? = some (.cells ⟨(GB.mk n T L C A B ca cb m).cells⟩ 80 (0, 0)) /\ w'.heap[m]? = some (.map ⟨[]⟩ 0) := by
 refine fEn Tryz.func22 rfl Tryz.ntmps22 rfl rfl (sWn w) ?_
 repeat (first|refine lVa rfl rfl (by first|exact pEv rfl|exact vLd rfl (by repeat constructor) rfl (by rfl)|exact v_build rfl rfl (by rfl)|fail) ?_|refine lNi ?_|refine cRg ?_|refine cSq ?_|refine xTh ?_|refine r_box rfl rfl rfl rfl (fun _ => ?_)|refine r_makeMap rfl rfl (fun _ => ?_)|refine cBl ?_|fail)
 rename_i b1 bm bg
 refine c_loop (ι := Nat) (fun k => k <= C.length) (fun k => [(5, .pointer (some ⟨bg, 0, none⟩)), (14, .slice B C.length cb), (15, .int .i64 C.length), (16, .int .i64 k)])
  (fun k => [(bg, .cells ⟨gmC n A B L.length C.length ca cb T (fI C k) bm⟩ 80 (0, 0)), (bm, .map ⟨[]⟩ 0)]) (fun k => C.length - k) 0 (Nat.zero_le _) (by repeat (first|exact .nil|refine .cons rfl (by first|rfl|(congr 1; done)|exact congrArg _ (by omega)|(simp; done)) ?_)) (by rw [fI_0]; exact MSub.keep rfl (MSub.keep rfl (MSub.drop MSub.nil))) ?_
 intro k hk
 by_cases hlt : k < C.length
 ·obtain ⟨x, hx⟩ : ∃ x, C[k]? = some x := ⟨_, List.getElem?_eq_getElem hlt⟩
  obtain ⟨b', o, rfl, hc'⟩ := hB k (lkE x) (by simp [hx])
  have he := ext_of hc'
  obtain ⟨hcal, hin⟩ := hC k x hx
  obtain ⟨c1, c2, c3, c4, c5, c6, c7, c8⟩ := hcal
  have hfs := fI_succ hx c3 ((into_first hx).1 hin)
  have hset := gmC_set (n := n) (A := A) (B := some ⟨b', o, none⟩) (ll := L.length) (lc := C.length) (ca := ca) (cb := cb) (T := T) (f := fI C k) (m := bm) (q := x.to.toNat) (v := 1 + k) (by omega)
  rw [show (1 : Int) + k = k + 1 by omega, hfs, show (k : Int) + 1 = 1 + k by omega] at hset
  clear hC hin hfs
  repeat ((fail_if_success refine c_probe (id := 5) ?_); (fail_if_success refine c_probe1 (id := 5) ?_); first|refine lVa rfl rfl (by first|exact pEv rfl|exact vL0 rfl (by assumption) rfl (by rfl)|exact v_index rfl rfl rfl rfl (by omega) (by omega) (by with_reducible first|exact idx4 _ _ _|fail)|fail) ?_|refine lNi ?_|refine cRg ?_|refine cSq ?_|refine xTh ?_|refine r_alloc rfl rfl rfl (by first|exact aggL|fail) (fun _ => ?_)|refine rSt rfl rfl rfl rfl rfl rfl rfl (by repeat constructor) (by rfl) ?_|refine c_dec_t rfl (by first|omega|fail) ?_|refine cBl ?_|refine cSk ?_|fail)
  refine c_gen [(8,1)] [(8,1,0 + 4 + x.to.toNat,1)] [] rfl (by decide +kernel) (by repeat' (first|exact trivial|apply And.intro|exact Or.inl (Nat.ne_of_beq_eq_false rfl)|(right; simp only; omega))) ?_; repeat (first|refine g_val rfl rfl rfl (by first|exact v_add rfl rfl (by omega) (by omega)|exact pEv rfl|exact vLd rfl (by repeat constructor) rfl (by rfl)|exact v_indexA rfl rfl rfl rfl (by omega) (by omega) (by with_reducible first|exact idx6 _ _|fail)|fail) ?_|fail)
  refine g_store rfl rfl rfl rfl rfl rfl rfl rfl rfl rfl rfl (by rw [gmC_len]; simp; omega) (splice_one (by rw [gmC_len]; omega) hset) rfl ?_
  repeat (first|refine lVa rfl rfl (by first|exact v_add rfl rfl (by omega) (by omega)|exact pEv rfl|fail) ?_|refine lNi ?_|refine cRg ?_|refine xTh ?_|refine x_block ?_|refine g_nil ?_|fail)
  exact x_back (k + 1) hlt (by omega) (by repeat (first|exact .nil|refine .cons rfl (by first|rfl|(congr 1; done)|exact congrArg _ (by omega)|(simp; done)) ?_)) (by simp only [List.set_cons_succ, List.set_cons_zero]; exact (by repeat (first|exact .nil|refine .keep (by first|rfl|assumption) ?_|refine .drop ?_|exact MSub.refl _)))
 have hke : k = C.length := by omega
 subst hke
 rw [fI_iv]
 repeat (first|refine lVa rfl rfl (by first|exact pEv rfl|fail) ?_|refine lNi ?_|refine cRg ?_|refine cSq ?_|refine xTh ?_|refine c_dec_f rfl (by first|omega|fail) ?_|refine c_ret ?_|refine c_exit ?_|refine xTe ?_|refine xBs ?_|fail)
 refine x_ret rfl rfl (by repeat constructor) rfl (fun W hW => ?_)
 have h1 := hW.own (bg, _) (by repeat constructor)
 have h2 := hW.own (bm, _) (by repeat constructor)
 refine ⟨bg, bm, rfl, hW.below, fun h => ?_, Nat.le_of_not_lt h1.1, Nat.le_of_not_lt h2.1, h1.2, h2.2⟩
 rw [show bg = bm from h] at h1
 have := h1.2.symm.trans h2.2
 injection this with this
 cases this
end R24
end Go.Proofs

set_option maxRecDepth 100000
set_option maxHeartbeats 400000000
namespace Go.Proofs
open Go.RowKit Go.Kin Go.Kin.St Go.Kin.Ct Go.Kin.Sg
namespace R24
theorem vq_fr {b : GB} {v : Bool} {w : World} {es : Mp} {e : Ending} {w' : World} (hm : w.heap[b.m]? = some es.o) (h : VQ b v w e w') : FrQ [(b.m, es.o)] (fun _ => .bool v) (fun i : { es : Mp // ∀ x ∈ es.es, EntV b x } => [(b.m, i.1.o)]) w e w' := by
 obtain ⟨es', he, hs, hh⟩ := h
 refine ⟨es', he, hs.mono fun k hk => ?_, fun k hk => hk.1, by simp, fun p hp => ?_, closed_noJ, trivial⟩
 ·exact fun e => hk.2 (by simp [e])
 ·rw [List.mem_singleton.1 hp]
  exact ⟨fun h => h.2 (by simp), hh⟩
/-- what lies there when decisions are handed back -/
structure SolI where
 rows : List DR
 b : Nat
 c : Nat
 r : List Value
def SolI.v (i : SolI) : Value := gSl i.rows i.b i.c
def SolI.m (i : SolI) : List (Nat × Obj) := gM drE 39 i.rows i.b i.r ++ rowsM i.rows
structure SolI.OK (G : Gm) (ad : Pos -> List Dec) (nx : Pos -> List Pos) (i : SolI) : Prop where
 g : gOK drE 3 i.rows i.c i.r
 r : ∀ r ∈ i.rows, r.OK
 s : i.rows.Pairwise (fun x y => cmpK x.k x.l y.k y.l < 0)
 d : ∀ d, d ∈ i.rows.map DR.dec ↔ ∃ p, Rch nx G.T (0, List.replicate G.n 0) p /\ p.1 <= G.T /\ d ∈ ad p
def noS (c : Int) : Value := .tuple ⟨[.slice none 0 0, .bool false, .int .i64 c]⟩
def yesS (i : SolI) : Value := .tuple ⟨[i.v, .bool true, .int .i64 0]⟩
/-- what Solve and Spoil answer -/
def SolQ (n : Nat) (T : Nat) (L C : List Lk) (good : Prop) (ad : Pos -> List Dec) (nx : Pos -> List Pos) (w : World) (e : Ending) (w' : World) : Prop :=
 Below w.heap.size w w' /\ ((¬ good /\ e = .returned (noS 0)) ∨ (good /\ ∃ i : SolI, i.OK ⟨n, T, L, C⟩ ad nx /\ e = .returned (yesS i) /\ (i.m.map (·.1)).Nodup /\ ∀ p ∈ i.m, w.heap.size <= p.1 /\ w'.heap[p.1]? = some p.2))
theorem ins_at {A : Option Addr} {l : List Lk} : ∀ r ∈ l.map lkE, r ≠ [] := fun r hr => by obtain ⟨x, _, rfl⟩ := List.mem_map.1 hr; exact List.cons_ne_nil _ _
theorem Solve_calls (n T : Nat) (A B : Option Addr) (ca cb : Nat) (L C : List Lk) (w : World) (hA : (R23.Un.mk n A ca L B cb C).In w) (hl : L.length <= 1000) (hc : C.length <= 1000) (h0 : chkS n L C T = 0) (hfew : (T + 2) ^ n <= 3000) :
  Calls Tryz.prog 12 ⟨[.agg ⟨(R23.Un.mk n A ca L B cb C).v⟩, .int .i64 T]⟩ w (SolQ n T L C (Vt ⟨n, T, L, C⟩ 0 (List.replicate n 0)) (adD ⟨n, T, L, C⟩) (nxD ⟨n, T, L, C⟩) w) := by
 have hck : ∀ (mem : List (Nat × Obj)) (W : World), SatW w (base w) noJ mem W -> Calls Tryz.prog 17 ⟨[.agg ⟨(R23.Un.mk n A ca L B cb C).v⟩, .int .i64 T]⟩ W fun e w' => e = .returned (.int .i64 0) /\ Below W.heap.size W w' := fun mem W hW => by
  have := CheckS_calls (R23.Un.mk n A ca L B cb C) T W (hA.sat hW) hl hc
  rw [h0] at this; exact this
 have hAl := hA.l
 have hAc := hA.c
 simp only [R23.Un.v] at hck ⊢
 simp only at hAl hAc
 obtain ⟨_, _, hn0, hCC⟩ : True /\ True /\ n ≠ 0 /\ ∀ i x, C[i]? = some x -> Cal n x /\ into C x.to = some i := ⟨trivial, trivial, (tree_gok (A := A) (B := B) (ca := ca) (cb := cb) (m := 0) h0).2⟩
 have hn6 : n <= 6 := (tree_gok (A := A) (B := B) (ca := ca) (cb := cb) (m := 0) h0).1.n
 refine fEn Tryz.func12 rfl Tryz.ntmps12 rfl rfl (sWn w) ?_
 repeat (first|refine lVa rfl rfl (by first|exact pEv rfl|exact vLd rfl (by repeat constructor) rfl (by rfl)|fail) ?_|refine lNi ?_|refine cRg ?_|refine cSq ?_|refine xTh ?_|refine r_box rfl rfl rfl rfl (fun _ => ?_)|fail)
 refine r_call rfl rfl rfl (fun W hW => hck _ W hW) ?_
 repeat (first|refine lVa rfl rfl (by first|exact pEv rfl|exact vLd rfl (by repeat constructor) rfl (by rfl)|fail) ?_|refine lNi ?_|refine cRg ?_|refine cSq ?_|refine xTh ?_|refine c_false rfl ?_|refine cSk ?_|fail)
 refine r_call2 (ι := Nat × Nat) (v := fun i => .pointer (some ⟨i.1, 0, none⟩)) (bk := fun i => i.1) (bk2 := fun i => i.2) (o := fun i => .cells ⟨(GB.mk n T L C A B ca cb i.2).cells⟩ 80 (0, 0)) (o2 := fun _ => .map ⟨[]⟩ 0) rfl rfl rfl (fun W hW => (open_calls n T A B ca cb L C W hn6 hCC hc (hAc.sat hW)).mono ?_) ?_
 ·rintro e w' ⟨a, m, e1, e2, e3, e4, e5, e6, e7⟩
  exact ⟨(a, m), e1, e2, e4, e6, e5, e7, fun h => e3 h.symm⟩
 rintro ⟨a, m⟩
 simp only
 obtain ⟨b, hb⟩ : ∃ b : GB, b = ⟨n, T, L, C, A, B, ca, cb, m⟩ := ⟨_, rfl⟩
 have hG : GOK b := by rw [hb]; exact (tree_gok h0).1
 have hbm : b.m = m := by rw [hb]
 have hbg : b.g = ⟨n, T, L, C⟩ := by rw [hb]
 have hbT : b.T = T := by rw [hb]
 have hbn : b.n = n := by rw [hb]
 rw [<- hb]
 repeat (first|refine r_alloc rfl rfl rfl rfl (fun _ => ?_)|refine lVa rfl rfl (by first|exact vLd rfl (by repeat constructor) rfl (by rfl)|exact v_build rfl rfl (by rfl)|fail) ?_|refine lNi ?_|refine cRg ?_|refine cSq ?_|refine xTh ?_|refine rSt rfl rfl rfl rfl rfl rfl rfl (by repeat constructor) (by rfl) ?_|fail)
 rename_i b2 b7
 subst hbm
 have hga : ∀ {mem : List (Nat × Obj)} {W : World}, SatW w (base w) noJ mem W -> (a, Obj.cells ⟨b.cells⟩ 80 (0, 0)) ∈ mem -> GIn b a W := fun {mem W} hW hm =>
  ⟨fun j v hj => by rw [hW.cellAt hm]; exact hj, by rw [hb]; exact hAl.sat hW, by rw [hb]; exact hAc.sat hW⟩
 obtain ⟨v, hv⟩ : ∃ v, vB b.g 0 (List.replicate b.n 0) = v := ⟨_, rfl⟩
 have hwins : ∀ {mem : List (Nat × Obj)} {W : World}, SatW w (base w) noJ mem W -> (a, Obj.cells ⟨b.cells⟩ 80 (0, 0)) ∈ mem -> W.heap[b.m]? = some (Mp.mk [] 0).o -> Calls Tryz.prog 35 ⟨[.pointer (some ⟨a, 0, none⟩), .agg ⟨plC 0 (fun _ => 0)⟩]⟩ W (VQ b v W) := fun {mem W} hW hm hh => by
  have := wins_calls b a hG (b.T + 1 - 0) 0 rfl (Nat.zero_le _) (List.replicate b.n 0) W ⟨[], 0⟩ (rep_pos b).1 (hga hW hm) hh (by simp)
  rw [show plC ((0 : Nat) : Int) (kn (List.replicate b.n 0)) = plC 0 (fun _ => 0) from plE_zero, hv] at this
  exact this
 refine r_callF (pre := [(b.m, (Mp.mk [] 0).o)]) (v := fun _ : { es : Mp // ∀ x ∈ es.es, EntV b x } => .bool v) (post := fun i => [(b.m, i.1.o)]) rfl rfl rfl (List.Perm.swap _ _ _) (fun W hW h1 h2 => (hwins hW (by repeat constructor) (h2 _ List.mem_cons_self)).mono fun e w' h => vq_fr (h2 _ List.mem_cons_self) h) ?_
 rintro ⟨es, hes⟩
 simp only [List.cons_append, List.nil_append]
 have hgood : (v = true) ↔ Vt ⟨n, T, L, C⟩ 0 (List.replicate n 0) := by
  rw [<- hv, hbg, hbn]; unfold vB; exact @decide_eq_true_iff _ (Classical.propDecidable _)
 cases v with
 | false =>
  have hng : ¬ Vt ⟨n, T, L, C⟩ 0 (List.replicate n 0) := fun h => by cases hgood.2 h
  repeat (first|refine lVa rfl rfl (by first|exact pEv rfl|fail) ?_|refine lNi ?_|refine cRg ?_|refine cSq ?_|refine xTh ?_|refine c_true rfl ?_|refine c_ret ?_|refine xTr ?_|fail)
  exact x_ret rfl rfl (by repeat constructor) rfl (fun W hW => ⟨hW.below, .inl ⟨hng, rfl⟩⟩)
 | true =>
  have hg2 := hgood.1 rfl
  have hcol := colD b a b7 hG (by rw [hbn]; exact hn0) (by rw [hbg, hbn]; exact hg2)
  repeat (first|refine lVa rfl rfl (by first|exact pEv rfl|exact vLd rfl (by repeat constructor) rfl (by rfl)|fail) ?_|refine lNi ?_|refine cRg ?_|refine cSq ?_|refine xTh ?_|refine c_false rfl ?_|refine cSk ?_|fail)
  have hpm : ∀ {M X Y Z : Nat × Obj}, [M, X, Y, Z].Perm ([M] ++ [X, Y, Z]) := fun {M X Y Z} => List.Perm.refl _
  refine r_callF (pre := [(b.m, es.o)]) rfl rfl rfl hpm (fun W hW h1 h2 => collect_calls b a 37 b7 _ _ _ hG hcol (by rw [hbT, hbn]; exact hfew) es W hes (h2 _ List.mem_cons_self) ⟨ext_own hW hpm (T := 80) (fr := (0, 0)) (by repeat constructor), by rw [hb]; exact Ar.of hAl (ins_at (A := none)) hW.same (hW.allButP hpm), by rw [hb]; exact Ar.of hAc (ins_at (A := none)) hW.same (hW.allButP hpm)⟩ (ext_own hW hpm (T := 49) (fr := (0, 0)) (by repeat constructor))) ?_
  rintro ⟨ci, j1, j2, j3, j4, j5⟩
  simp only
  repeat (first|refine lVa rfl rfl (by first|exact pEv rfl|fail) ?_|refine lNi ?_|refine xTh ?_|refine c_ret ?_|fail)
  refine x_ret rfl rfl (by repeat constructor) rfl (fun W hW => ⟨hW.below, .inr ⟨hg2, ⟨ci.rows, ci.b, ci.c, ci.r⟩, ⟨j2, j3, j4, ?_⟩, rfl, ?_⟩⟩)
  ·rw [hbg, hbT, hbn] at j5; exact j5
  ·have h3 : SatW w (base w) noJ (SolI.m ⟨ci.rows, ci.b, ci.c, ci.r⟩) W := hW.mono ((List.sublist_cons_self _ _).trans (List.sublist_append_left _ _))
   exact ⟨h3.nodup, fun p hp => ⟨Nat.le_of_not_lt (h3.own p hp).1, (h3.own p hp).2⟩⟩
theorem Spoil_calls (n T : Nat) (A B : Option Addr) (ca cb : Nat) (L C : List Lk) (w : World) (hA : (R23.Un.mk n A ca L B cb C).In w) (hl : L.length <= 1000) (hc : C.length <= 1000) (h0 : chkS n L C T = 0) (hfew : (T + 2) ^ n <= 3000) :
  Calls Tryz.prog 13 ⟨[.agg ⟨(R23.Un.mk n A ca L B cb C).v⟩, .int .i64 T]⟩ w (SolQ n T L C (¬ Vt ⟨n, T, L, C⟩ 0 (List.replicate n 0)) (adO ⟨n, T, L, C⟩) (nxO ⟨n, T, L, C⟩) w) := by
 have hck : ∀ (mem : List (Nat × Obj)) (W : World), SatW w (base w) noJ mem W -> Calls Tryz.prog 17 ⟨[.agg ⟨(R23.Un.mk n A ca L B cb C).v⟩, .int .i64 T]⟩ W fun e w' => e = .returned (.int .i64 0) /\ Below W.heap.size W w' := fun mem W hW => by
  have := CheckS_calls (R23.Un.mk n A ca L B cb C) T W (hA.sat hW) hl hc
  rw [h0] at this; exact this
 have hAl := hA.l
 have hAc := hA.c
 simp only [R23.Un.v] at hck ⊢
 simp only at hAl hAc
 obtain ⟨_, _, hn0, hCC⟩ : True /\ True /\ n ≠ 0 /\ ∀ i x, C[i]? = some x -> Cal n x /\ into C x.to = some i := ⟨trivial, trivial, (tree_gok (A := A) (B := B) (ca := ca) (cb := cb) (m := 0) h0).2⟩
 have hn6 : n <= 6 := (tree_gok (A := A) (B := B) (ca := ca) (cb := cb) (m := 0) h0).1.n
 refine fEn Tryz.func13 rfl Tryz.ntmps13 rfl rfl (sWn w) ?_
 repeat (first|refine lVa rfl rfl (by first|exact pEv rfl|exact vLd rfl (by repeat constructor) rfl (by rfl)|fail) ?_|refine lNi ?_|refine cRg ?_|refine cSq ?_|refine xTh ?_|refine r_box rfl rfl rfl rfl (fun _ => ?_)|fail)
 refine r_call rfl rfl rfl (fun W hW => hck _ W hW) ?_
 repeat (first|refine lVa rfl rfl (by first|exact pEv rfl|exact vLd rfl (by repeat constructor) rfl (by rfl)|fail) ?_|refine lNi ?_|refine cRg ?_|refine cSq ?_|refine xTh ?_|refine c_false rfl ?_|refine cSk ?_|fail)
 refine r_call2 (ι := Nat × Nat) (v := fun i => .pointer (some ⟨i.1, 0, none⟩)) (bk := fun i => i.1) (bk2 := fun i => i.2) (o := fun i => .cells ⟨(GB.mk n T L C A B ca cb i.2).cells⟩ 80 (0, 0)) (o2 := fun _ => .map ⟨[]⟩ 0) rfl rfl rfl (fun W hW => (open_calls n T A B ca cb L C W hn6 hCC hc (hAc.sat hW)).mono ?_) ?_
 ·rintro e w' ⟨a, m, e1, e2, e3, e4, e5, e6, e7⟩
  exact ⟨(a, m), e1, e2, e4, e6, e5, e7, fun h => e3 h.symm⟩
 rintro ⟨a, m⟩
 simp only
 obtain ⟨b, hb⟩ : ∃ b : GB, b = ⟨n, T, L, C, A, B, ca, cb, m⟩ := ⟨_, rfl⟩
 have hG : GOK b := by rw [hb]; exact (tree_gok h0).1
 have hbm : b.m = m := by rw [hb]
 have hbg : b.g = ⟨n, T, L, C⟩ := by rw [hb]
 have hbT : b.T = T := by rw [hb]
 have hbn : b.n = n := by rw [hb]
 rw [<- hb]
 repeat (first|refine r_alloc rfl rfl rfl rfl (fun _ => ?_)|refine lVa rfl rfl (by first|exact vLd rfl (by repeat constructor) rfl (by rfl)|exact v_build rfl rfl (by rfl)|fail) ?_|refine lNi ?_|refine cRg ?_|refine cSq ?_|refine xTh ?_|refine rSt rfl rfl rfl rfl rfl rfl rfl (by repeat constructor) (by rfl) ?_|fail)
 rename_i b2 b7
 subst hbm
 have hga : ∀ {mem : List (Nat × Obj)} {W : World}, SatW w (base w) noJ mem W -> (a, Obj.cells ⟨b.cells⟩ 80 (0, 0)) ∈ mem -> GIn b a W := fun {mem W} hW hm =>
  ⟨fun j v hj => by rw [hW.cellAt hm]; exact hj, by rw [hb]; exact hAl.sat hW, by rw [hb]; exact hAc.sat hW⟩
 obtain ⟨v, hv⟩ : ∃ v, vB b.g 0 (List.replicate b.n 0) = v := ⟨_, rfl⟩
 have hwins : ∀ {mem : List (Nat × Obj)} {W : World}, SatW w (base w) noJ mem W -> (a, Obj.cells ⟨b.cells⟩ 80 (0, 0)) ∈ mem -> W.heap[b.m]? = some (Mp.mk [] 0).o -> Calls Tryz.prog 35 ⟨[.pointer (some ⟨a, 0, none⟩), .agg ⟨plC 0 (fun _ => 0)⟩]⟩ W (VQ b v W) := fun {mem W} hW hm hh => by
  have := wins_calls b a hG (b.T + 1 - 0) 0 rfl (Nat.zero_le _) (List.replicate b.n 0) W ⟨[], 0⟩ (rep_pos b).1 (hga hW hm) hh (by simp)
  rw [show plC ((0 : Nat) : Int) (kn (List.replicate b.n 0)) = plC 0 (fun _ => 0) from plE_zero, hv] at this
  exact this
 refine r_callF (pre := [(b.m, (Mp.mk [] 0).o)]) (v := fun _ : { es : Mp // ∀ x ∈ es.es, EntV b x } => .bool v) (post := fun i => [(b.m, i.1.o)]) rfl rfl rfl (List.Perm.swap _ _ _) (fun W hW h1 h2 => (hwins hW (by repeat constructor) (h2 _ List.mem_cons_self)).mono fun e w' h => vq_fr (h2 _ List.mem_cons_self) h) ?_
 rintro ⟨es, hes⟩
 simp only [List.cons_append, List.nil_append]
 have hgood : (v = true) ↔ Vt ⟨n, T, L, C⟩ 0 (List.replicate n 0) := by
  rw [<- hv, hbg, hbn]; unfold vB; exact @decide_eq_true_iff _ (Classical.propDecidable _)
 cases v with
 | true =>
  have hng : ¬ ¬ Vt ⟨n, T, L, C⟩ 0 (List.replicate n 0) := fun h => h (hgood.1 rfl)
  repeat (first|refine lVa rfl rfl (by first|exact pEv rfl|fail) ?_|refine lNi ?_|refine cRg ?_|refine cSq ?_|refine xTh ?_|refine c_true rfl ?_|refine c_ret ?_|refine xTr ?_|fail)
  exact x_ret rfl rfl (by repeat constructor) rfl (fun W hW => ⟨hW.below, .inl ⟨hng, rfl⟩⟩)
 | false =>
  have hg2 : ¬ Vt ⟨n, T, L, C⟩ 0 (List.replicate n 0) := fun h => by cases hgood.2 h
  have hcol := colO b a b7 hG (by rw [hbn]; exact hn0) (by rw [hbg, hbn]; exact hg2)
  repeat (first|refine lVa rfl rfl (by first|exact pEv rfl|exact vLd rfl (by repeat constructor) rfl (by rfl)|fail) ?_|refine lNi ?_|refine cRg ?_|refine cSq ?_|refine xTh ?_|refine c_false rfl ?_|refine cSk ?_|fail)
  have hpm : ∀ {M X Y Z : Nat × Obj}, [M, X, Y, Z].Perm ([M] ++ [X, Y, Z]) := fun {M X Y Z} => List.Perm.refl _
  refine r_callF (pre := [(b.m, es.o)]) rfl rfl rfl hpm (fun W hW h1 h2 => collect_calls b a 39 b7 _ _ _ hG hcol (by rw [hbT, hbn]; exact hfew) es W hes (h2 _ List.mem_cons_self) ⟨ext_own hW hpm (T := 80) (fr := (0, 0)) (by repeat constructor), by rw [hb]; exact Ar.of hAl (ins_at (A := none)) hW.same (hW.allButP hpm), by rw [hb]; exact Ar.of hAc (ins_at (A := none)) hW.same (hW.allButP hpm)⟩ (ext_own hW hpm (T := 49) (fr := (0, 0)) (by repeat constructor))) ?_
  rintro ⟨ci, j1, j2, j3, j4, j5⟩
  simp only
  repeat (first|refine lVa rfl rfl (by first|exact pEv rfl|fail) ?_|refine lNi ?_|refine xTh ?_|refine c_ret ?_|fail)
  refine x_ret rfl rfl (by repeat constructor) rfl (fun W hW => ⟨hW.below, .inr ⟨hg2, ⟨ci.rows, ci.b, ci.c, ci.r⟩, ⟨j2, j3, j4, ?_⟩, rfl, ?_⟩⟩)
  ·rw [hbg, hbT, hbn] at j5; exact j5
  ·have h3 : SatW w (base w) noJ (SolI.m ⟨ci.rows, ci.b, ci.c, ci.r⟩) W := hW.mono ((List.sublist_cons_self _ _).trans (List.sublist_append_left _ _))
   exact ⟨h3.nodup, fun p hp => ⟨Nat.le_of_not_lt (h3.own p hp).1, (h3.own p hp).2⟩⟩
end R24
end Go.Proofs

namespace Go.Proofs
open Go.RowKit Go.Kin Go.Kin.St Go.Kin.Ct Go.Kin.Sg
namespace R24
/-- a decision that came in -/
structure DW where
 k : Int
 l : List Int
 d : List Int
 K : Option Addr
 ck : Nat
 D : Option Addr
 cd : Nat
def dwE (r : DW) : List Value := [.int .i64 r.k, .slice r.K r.l.length r.ck, .slice r.D r.d.length r.cd]
structure StrIn (w : World) (S : Option Addr) (rows : List DW) : Prop where
 r : At w S 3 (rows.map dwE)
 k : ∀ r ∈ rows, At w r.K 1 (r.l.map inE)
 d : ∀ r ∈ rows, At w r.D 1 (r.d.map inE)
theorem StrIn.later {w W : World} {S : Option Addr} {rows : List DW} (h : StrIn w S rows) (hb : Below w.heap.size w W) : StrIn W S rows := ⟨h.r.later hb, fun r hr => (h.k r hr).later hb, fun r hr => (h.d r hr).later hb⟩
/-- what came ahead in the list -/
def pv (d : List Int) : Nat -> Int
 | 0 => -1
 | i + 1 => d.getD i 0
def okD (n : Nat) (d : List Int) : Prop := ∀ i x, d[i]? = some x -> pv d i < x /\ x < n
def okL (k : Int) (l : List Int) : Prop := ∀ x ∈ l, 0 <= x /\ x <= k + 1
def okP (rows : List DW) (i : Nat) (r : DW) : Prop := ∀ j p, i = j + 1 -> rows[j]? = some p -> cmpK p.k p.l r.k r.l < 0
structure okR (n T : Nat) (rows : List DW) (i : Nat) (r : DW) : Prop where
 k0 : 0 <= r.k
 kT : r.k <= T
 l : r.l.length = n
 d : r.d ≠ []
 p : okP rows i r
 o : okD n r.d
 e : okL r.k r.l
def okS (n T : Nat) (rows : List DW) : Prop := ∀ i r, rows[i]? = some r -> okR n T rows i r
def kvR (rows : List DW) : List ((Int × (Nat -> Int)) × Value) := rows.map fun r => ((r.k, kn r.l), .slice r.D r.d.length r.cd)
open Classical in
noncomputable def rdC (n : Int) (L C : List Lk) (T : Int) (rows : List DW) : Int :=
 if chkS n L C T ≠ 0 then chkS n L C T else if 4096 < rows.length then 2 else if okS n.toNat T.toNat rows then 0 else 240
/-- what reading answers -/
def RdQ (n : Int) (L C : List Lk) (T : Int) (rows : List DW) (w : World) (e : Ending) (w' : World) : Prop :=
 Below w.heap.size w w' /\ ((rdC n L C T rows ≠ 0 /\ e = .returned (.tuple ⟨[.map none, .int .i64 (rdC n L C T rows)]⟩)) ∨ (rdC n L C T rows = 0 /\ ∃ b, e = .returned (.tuple ⟨[.map (some b), .int .i64 0]⟩) /\ w.heap.size <= b /\ w'.heap[b]? = some (pkO (kvR rows))))
theorem rdC_a {n T : Int} {L C : List Lk} {rows : List DW} (h : chkS n L C T ≠ 0) : rdC n L C T rows = chkS n L C T := if_pos h
theorem rdC_2 {n T : Int} {L C : List Lk} {rows : List DW} (h : chkS n L C T = 0) (h2 : 4096 < rows.length) : rdC n L C T rows = 2 := by unfold rdC; rw [if_neg (fun g => g h), if_pos h2]
theorem rdC_no {n T : Int} {L C : List Lk} {rows : List DW} (h : chkS n L C T = 0) (h2 : ¬ 4096 < rows.length) (h3 : ¬ okS n.toNat T.toNat rows) : rdC n L C T rows = 240 := by unfold rdC; rw [if_neg (fun g => g h), if_neg h2, if_neg h3]
theorem rdC_0 {n T : Int} {L C : List Lk} {rows : List DW} (h : chkS n L C T = 0) (h2 : ¬ 4096 < rows.length) (h3 : okS n.toNat T.toNat rows) : rdC n L C T rows = 0 := by unfold rdC; rw [if_neg (fun g => g h), if_neg h2, if_pos h3]
def lf (l : List Int) (j : Nat) (q : Nat) : Int := if q < j then kn l q else 0
theorem lf_0 {l : List Int} : lf l 0 = fun _ => 0 := funext fun q => if_neg (Nat.not_lt_zero q)
theorem lf_all {l : List Int} : lf l l.length = kn l := funext fun q => by
 unfold lf
 by_cases h : q < l.length
 ·rw [if_pos h]
 ·rw [if_neg h, kn_over (by omega)]
theorem lf_set {l : List Int} {j : Nat} : iset (lf l j) j (kn l j) = lf l (j + 1) := funext fun q => by
 unfold iset lf
 by_cases h : q = j
 ·subst h; simp
 ·simp only [h, if_false]
  by_cases h2 : q < j
  ·rw [if_pos h2, if_pos (by omega)]
  ·rw [if_neg h2, if_neg (by omega)]
theorem at_cells {w : World} {K : Option Addr} {l : List Int} (h : At w K 1 (l.map inE)) (hne : l ≠ []) : ∃ b o, K = some ⟨b, o, none⟩ /\ ∀ k x, l[k]? = some x -> w.cell? ⟨b, o + k, none⟩ = some (.int .i64 x) := by
 cases l with
 | nil => exact absurd rfl hne
 | cons y l =>
  obtain ⟨b, o, e, _⟩ := h 0 (inE y) rfl
  refine ⟨b, o, e, fun k x hx => ?_⟩
  obtain ⟨b', o', e', hc⟩ := h k (inE x) (by rw [List.getElem?_map, hx]; rfl)
  rw [e] at e'
  cases e'
  have := hc 0 (.int .i64 x) rfl
  rw [Nat.mul_one, Nat.add_zero] at this
  exact this
/-- keys are new where decisions ascend -/
theorem kvR_new {n T : Nat} (hn : n <= 6) {rows : List DW} : ∀ {i : Nat} {r : DW}, (∀ j x, j < i -> rows[j]? = some x -> okR n T rows j x) -> rows[i]? = some r -> r.l.length = n -> okP rows i r -> ∀ x ∈ rows.take i, cmpK x.k x.l r.k r.l < 0
 | 0, _, _, _, _, _ => fun x hx => by simp at hx
 | i + 1, r, h, hr, hl, hp => fun x hx => by
  have hlt := (List.getElem?_eq_some_iff.1 hr).1
  have hy : rows[i]? = some rows[i] := List.getElem?_eq_getElem (by omega)
  have hoy := h i _ (Nat.lt_succ_self i) hy
  have hyr := hp i _ rfl hy
  rw [List.take_add_one, hy] at hx
  rcases List.mem_append.1 hx with hx | hx
  ·have h1 := kvR_new hn (i := i) (r := rows[i]) (fun j x hj hx => h j x (by omega) hx) hy hoy.l hoy.p x hx
   obtain ⟨j, hj, hxj⟩ := List.mem_take_iff_getElem.1 hx
   have hlx : x.l.length = n := (h j x (by omega) (by rw [List.getElem?_eq_getElem (by omega), hxj])).l
   exact cmpK_trans (by rw [hlx, hoy.l]) (by rw [hoy.l, hl]) h1 hyr
  ·simp only [Option.toList_some, List.mem_singleton] at hx
   rw [hx]; exact hyr
theorem kvR_none {n : Nat} (hn : n <= 6) {l : List DW} {r : DW} (hl : r.l.length = n) (h : ∀ x ∈ l, x.l.length = n /\ cmpK x.k x.l r.k r.l < 0) : pkGet (kvR l) r.k (kn r.l) = none := by
 unfold pkGet kvR
 rw [List.find?_map, Option.map_map]
 cases hf : l.find? ((fun x : (Int × (Nat -> Int)) × Value => decide (r.k = x.1.1) && sameTo (kn r.l) x.1.2 6) ∘ fun r => ((r.k, kn r.l), Value.slice r.D r.d.length r.cd)) with
 | none => rfl
 | some y =>
  have h1 := List.find?_some hf
  have h2 := List.mem_of_find?_eq_some hf
  simp only [Function.comp, Bool.and_eq_true, decide_eq_true_eq] at h1
  obtain ⟨h3, h4⟩ := h y h2
  rw [kn_same (by rw [hl, h3]) (by omega)] at h1
  rw [h1.1, h1.2] at h4
  exact absurd h4 cmpK_irrefl
theorem compare_dw (x y : DW) (n : Nat) (hx : x.l.length = n) (hy : y.l.length = n) (hn : n <= 1000) (hne : n ≠ 0) (w : World) (hax : At w x.K 1 (x.l.map inE)) (hay : At w y.K 1 (y.l.map inE)) :
  Calls Tryz.prog 50 ⟨[.agg ⟨dwE x⟩, .agg ⟨dwE y⟩]⟩ w fun e w' => e = .returned (.int .i64 (cmpK x.k x.l y.k y.l)) /\ Below w.heap.size w w' := by
 obtain ⟨b1, o1, h1, hc1⟩ := at_cells hax fun e => hne (by rw [<- hx, e]; rfl)
 obtain ⟨b2, o2, h2, hc2⟩ := at_cells hay fun e => hne (by rw [<- hy, e]; rfl)
 unfold dwE
 rw [h1, h2]
 refine (compare_any x.k y.k b1 o1 x.ck b2 o2 y.ck x.l y.l _ _ rfl rfl w (by rw [hx, hy]) (by rw [hx]; exact hn) hc1 hc2).mono ?_
 rintro e w' ⟨rfl, q, os, rfl⟩
 exact ⟨rfl, below_grow _ _ _⟩
end R24
end Go.Proofs

namespace Go.Proofs
open Go.RowKit Go.Kin Go.Kin.St Go.Kin.Ct Go.Kin.Sg
namespace R24
/-- what a strategy does at a tick, where it is known what it knows -/
def rowOf (rows : List DW) (k : Nat) (l : List Int) : Option DW := rows.find? fun r => decide (r.k = (k : Int)) && decide (r.l = l)
def toN (d : List Int) : List Nat := d.map Int.toNat
def tabW (rows : List DW) : Tab := fun k l => (rowOf rows k l).map fun r => toN r.d
theorem rowOf_some {rows : List DW} {k : Nat} {l : List Int} {r : DW} (h : rowOf rows k l = some r) : r ∈ rows /\ r.k = k /\ r.l = l := by
 unfold rowOf at h
 have h1 := List.find?_some h
 simp only [Bool.and_eq_true, decide_eq_true_eq] at h1
 exact ⟨List.mem_of_find?_eq_some h, h1.1, h1.2⟩
/-- the map holds the table -/
theorem kvR_get {n : Nat} (hn : n <= 6) {l : List Int} (hl : l.length = n) (k : Nat) : ∀ {rows : List DW}, (∀ r ∈ rows, r.l.length = n) -> pkGet (kvR rows) k (kn l) = (rowOf rows k l).map fun r => .slice r.D r.d.length r.cd := by
 intro rows hr
 unfold pkGet kvR rowOf
 rw [List.find?_map, Option.map_map]
 have hf : ∀ {rs : List DW}, (∀ r ∈ rs, r.l.length = n) -> rs.find? ((fun x : (Int × (Nat -> Int)) × Value => decide ((k : Int) = x.1.1) && sameTo (kn l) x.1.2 6) ∘ fun r => ((r.k, kn r.l), Value.slice r.D r.d.length r.cd)) = rs.find? fun r => decide (r.k = (k : Int)) && decide (r.l = l) := by
  intro rs hrs
  induction rs with
  | nil => rfl
  | cons x rs ih =>
   rw [List.find?_cons, List.find?_cons, ih fun r hr => hrs r (List.mem_cons_of_mem _ hr)]
   have hx := hrs x List.mem_cons_self
   have e : ((fun x : (Int × (Nat -> Int)) × Value => decide ((k : Int) = x.1.1) && sameTo (kn l) x.1.2 6) ∘ fun r : DW => ((r.k, kn r.l), Value.slice r.D r.d.length r.cd)) x = (decide (x.k = (k : Int)) && decide (x.l = l)) := by
    simp only [Function.comp]
    rw [Bool.eq_iff_iff]
    simp only [Bool.and_eq_true, decide_eq_true_eq]
    rw [kn_same (by rw [hl, hx]) (by omega)]
    constructor
    ·rintro ⟨h1, h2⟩; exact ⟨h1.symm, h2.symm⟩
    ·rintro ⟨h1, h2⟩; exact ⟨h1.symm, h2.symm⟩
   rw [e]
 rw [hf hr]
 rfl
theorem pv_inc {n : Nat} {d : List Int} (h : okD n d) : ∀ {i : Nat} {x : Int}, d[i]? = some x -> 0 <= x /\ x < n /\ ∀ j y, j < i -> d[j]? = some y -> y < x
 | 0, x, hx => by
  have := h 0 x hx
  rw [show pv d 0 = -1 from rfl] at this
  exact ⟨by omega, this.2, fun j y hj => absurd hj (Nat.not_lt_zero _)⟩
 | i + 1, x, hx => by
  have h1 := h (i + 1) x hx
  have hlt := (List.getElem?_eq_some_iff.1 hx).1
  have hy : d[i]? = some d[i] := List.getElem?_eq_getElem (by omega)
  have hp : pv d (i + 1) = d[i] := by show d.getD i 0 = _; rw [List.getD_eq_getElem?_getD, hy]; rfl
  obtain ⟨g1, g2, g3⟩ := pv_inc h hy
  rw [hp] at h1
  refine ⟨by omega, h1.2, fun j y hj hy' => ?_⟩
  by_cases hji : j < i
  ·have := g3 j y hji hy'; omega
  ·have e : j = i := by omega
   subst e
   rw [hy] at hy'; cases hy'; exact h1.1
theorem toN_inc {n : Nat} {d : List Int} (h : okD n d) : (toN d).Pairwise (· < ·) := by
 unfold toN
 rw [List.pairwise_map, List.pairwise_iff_getElem]
 intro i j hi hj hij
 have h1 := pv_inc h (List.getElem?_eq_getElem hi)
 have h2 := pv_inc h (List.getElem?_eq_getElem hj)
 have h3 := h2.2.2 i _ hij (List.getElem?_eq_getElem hi)
 omega
theorem toN_back {n : Nat} {d : List Int} (h : okD n d) : (toN d).map (fun x : Nat => (x : Int)) = d := by
 unfold toN
 rw [List.map_map]
 refine (List.map_congr_left fun x hx => ?_).trans (List.map_id _)
 obtain ⟨i, hi, rfl⟩ := List.mem_iff_getElem.1 hx
 have := (pv_inc h (List.getElem?_eq_getElem hi)).1
 simp only [Function.comp, id]
 omega
theorem tabW_inc {n T : Nat} {rows : List DW} (h : okS n T rows) : Inc (tabW rows) := fun k l S hS => by
 unfold tabW at hS
 obtain ⟨r, hr, rfl⟩ := Option.map_eq_some_iff.1 hS
 obtain ⟨hm, _, _⟩ := rowOf_some hr
 obtain ⟨i, hi, rfl⟩ := List.mem_iff_getElem.1 hm
 exact toN_inc (h i _ (List.getElem?_eq_getElem hi)).o
end R24
end Go.Proofs

/- Stemmata: all trees, in order, walked. -/
import Derived.Test.YtdegengehbdelaaGreatDoorSeW
set_option maxRecDepth 100000
set_option maxHeartbeats 400000000
set_option linter.unusedSectionVars false
set_option linter.unusedVariables false
set_option linter.unusedSimpArgs false
namespace Go.Proofs
open Go.RowKit Go.Kin Go.Kin.Se Go.Kin.Cl
namespace R41
structure RwPk (xs : List (List Nat)) (es : List RwE) (c : Nat) (r : List Value) : Prop where
 ls : (es.map (·.l)).Perm xs
 ok : ∀ e ∈ es, gOK nE 1 e.l e.c e.r
 gr : gOK RwE.v 1 es c r
/-- a list of lists, in whatever order -/
def RwP (xs : List (List Nat)) : Type := { p : List RwE × Nat × Nat × List Value // RwPk xs p.1 p.2.2.1 p.2.2.2 }
def RwP.v {xs : List (List Nat)} (i : RwP xs) : Value := gSl i.1.1 i.1.2.1 i.1.2.2.1
def RwP.m {xs : List (List Nat)} (i : RwP xs) : List (Nat × Obj) := gM RwE.v 30 i.1.1 i.1.2.1 i.1.2.2.2 ++ i.1.1.flatMap RwE.m
theorem rw_mem {es : List RwE} {e : RwE} (he : e ∈ es) {k x : Nat} (hx : e.l[k]? = some x) : (e.b, Obj.cells ⟨(e.l.map nE).flatten ++ e.r⟩ 3 (0, 0)) ∈ es.flatMap RwE.m := by
 refine List.mem_flatMap.2 ⟨e, he, ?_⟩
 unfold RwE.m
 rw [gM_ne (fun h => by rw [h] at hx; cases hx)]
 exact List.mem_singleton.2 rfl
/-- the lists that lie in the world -/
theorem rw_at {w0 W : World} {D : Nat -> Prop} {J : (Nat -> Prop) -> World -> Prop} {mem : List (Nat × Obj)} {es : List RwE} (hW : SatW w0 D J mem W) (hm : ∀ p ∈ es.flatMap RwE.m, p ∈ mem) {e : RwE} (he : e ∈ es) : ∃ A c, gSl e.l e.b e.c = .slice A e.l.length c /\ At W A 1 (e.l.map nE) :=
 at_gM hW (fun p hp => hm p (List.mem_flatMap.2 ⟨e, he, hp⟩)) (fun _ => rfl)
theorem sorted21_calls (xs : List (List Nat)) (n : Nat) (bs : Nat) (w : World) (hb : bs < w.heap.size) (hit : ∀ W1 : World, W1.heap[bs]? = w.heap[bs]? -> ItT Tryz.prog 47 [.pointer (some ⟨bs, 0, none⟩)] HdT xs (fun b => b = bs) W1) (hx : xs.length <= 1000) (hl : ∀ l ∈ xs, l.length = n) (hn : n <= 1000) (hne : xs ≠ []) :
  Calls Tryz.prog 21 ⟨[.func (.func 47) ⟨[]⟩ ⟨[.pointer (some ⟨bs, 0, none⟩)]⟩, .func (.func 23) #[] #[]]⟩ w (FrQ [] (RwP.v (xs := xs)) (RwP.m (xs := xs)) w) := by
 have hsat := frQ_start (W := w) (pre := []) (by simp) fun p hp => by cases hp
 have hDb : allBut w (List.map (·.1) ([] : List (Nat × Obj))) bs := ⟨hb, by simp⟩
 obtain ⟨o, ho⟩ : ∃ o, w.heap[bs]? = some o := ⟨_, Array.getElem?_eq_getElem hb⟩
 refine fEn Tryz.func21 rfl Tryz.ntmps21 rfl rfl hsat ?_
 repeat (first|refine lVa rfl rfl (by first|exact pEv rfl|fail) ?_|refine lNi ?_|refine cRg ?_|refine cSq ?_|refine xTh ?_|fail)
 refine r_callF (pre := []) rfl rfl rfl (.refl _) (fun W hW _ _ => collect45_calls xs bs W (Nat.lt_of_lt_of_le hb hW.same.size) (fun W1 hW1 => hit W1 ?_) hx) ?_
 ·rw [hW1, ho]; exact hW.same.obj ho hDb
 rintro ⟨⟨es, b, c, r⟩, hls, hok, hgr⟩
 simp only [RwI.v, RwI.m, List.append_nil] at hls hok hgr ⊢
 have hese : es ≠ [] := fun e => hne (by rw [<- hls, e]; rfl)
 have hel : ∀ e ∈ es, e.l.length = n := fun e he => hl _ (by rw [<- hls]; exact List.mem_map.2 ⟨e, he, rfl⟩)
 have hlen : es.length <= 1000 := by have := congrArg List.length hls; rw [List.length_map] at this; omega
 rw [gSl_ne hese, gM_ne hese]
 have hgr' := fun (_ : Unit) => hgr hese
 clear hgr
 repeat (first|refine lVa rfl rfl (by first|exact pEv rfl|fail) ?_|refine lNi ?_|refine cRg ?_|refine cSq ?_|refine xTh ?_|fail)
 refine r_callF (pre := [(b, .cells ⟨(es.map RwE.v).flatten ++ r⟩ 30 (0, 0))]) rfl rfl rfl (.refl _) (fun W hW _ hp => sortFunc46_calls es b c n r W hel hn hese (by omega) (fun e he k x hk => ?_) (hp _ List.mem_cons_self)) ?_
 ·have hm := rw_mem he hk
  have hnd := hW.nodup
  simp only [List.cons_append, List.nil_append, List.map_cons, List.nodup_cons] at hnd
  refine ⟨fun e1 => hnd.1 (List.mem_map.2 ⟨_, hm, e1⟩), ?_⟩
  rw [Nat.zero_add, hW.cellAt (List.mem_cons_of_mem _ hm) k, flN_eq]
  exact flN_get hk e.r
 rintro ⟨rs, hrs⟩
 simp only at hrs ⊢
 have hrne : rs ≠ [] := fun e => by rw [e] at hrs; exact hese (List.nil_perm.1 hrs)
 have hrl := hrs.length_eq
 rw [<- hrl]
 repeat (first|refine lVa rfl rfl (by first|exact pEv rfl|fail) ?_|refine lNi ?_|refine cRg ?_|refine cSq ?_|refine xTh ?_|refine c_ret ?_|fail)
 refine x_ret rfl rfl (.tmp rfl .nil) rfl (fun W hW => ⟨⟨(rs, b, c, r), ?_, ?_, fun _ => ?_⟩, ?_, ?_⟩)
 ·rw [<- hls]; exact hrs.map _
 ·exact fun e he => hok e (hrs.mem_iff.1 he)
 ·obtain ⟨g1, g2, g3, g4⟩ := hgr' ()
  refine ⟨rwE_len rs, ?_, by rw [hrl]; exact g3, g4⟩
  rw [List.length_append, rwE_len] at g2 ⊢
  rw [hrl]; exact g2
 ·simp only [RwP.v]
  rw [gSl_ne hrne]
 ·simp only [RwP.m]
  rw [gM_ne hrne]
  exact hW.perm ((hrs.flatMap_right _).symm.append_left _)
theorem trees_it (n : Nat) (h0 : 0 < n) (h4 : n < 5) (bs : Nat) (W : World) (h : W.heap[bs]? = some (.cells ⟨[.int .i64 (full n : Nat)]⟩ 3 (0, 0))) : ItT Tryz.prog 47 [.pointer (some ⟨bs, 0, none⟩)] HdT (trees n) (fun b => b = bs) W := by
 have h1 : 2 ^ n <= 2 ^ 4 := Nat.pow_le_pow_right (by omega) (by omega)
 have h2 : 2 ^ 1 <= 2 ^ n := Nat.pow_le_pow_right (by omega) (by omega)
 rw [<- trL_full n h4 h0]
 exact trees47_it 15 (full n) (by unfold full; omega) (by unfold full; omega) (by unfold full; omega) bs W h
theorem all8_calls (n : Nat) (h0 : 0 < n) (h4 : n < 5) (w : World) : Calls Tryz.prog 8 ⟨[.int .i64 n]⟩ w (FrQ [] (fun i : RwP (trees n) => .tuple ⟨[i.v, .int .i64 0]⟩) (fun i => i.m) w) := by
 have hsat := frQ_start (W := w) (pre := []) (by simp) fun p hp => by cases hp
 have hfull : (full n : Nat) + 1 = 2 ^ n := by unfold full; have := Nat.two_pow_pos n; omega
 have hsh := shl_small n (by omega)
 obtain ⟨hl1, hl2⟩ := trees_len n h4 h0
 have hlen : ∀ l ∈ trees n, l.length = n - 1 := fun l hl => by have := of_decide_eq_true (List.all_eq_true.1 hl2 l hl); omega
 refine fEn Tryz.func8 rfl Tryz.ntmps8 rfl rfl hsat ?_
 have hb16 : 2 ^ n <= 2 ^ 4 := Nat.pow_le_pow_right (by omega) (by omega)
 obtain ⟨q, hq⟩ : ∃ q, 2 ^ n = q := ⟨_, rfl⟩
 rw [hq] at hfull hsh hb16
 repeat (first|refine lVa rfl rfl (by first|exact pEv rfl|fail) ?_|refine lNi ?_|refine cRg ?_|refine cSq ?_|refine xTh ?_|refine c_dec_f rfl (by first|omega|exact fun h => h rfl|fail) ?_|refine cBl ?_|refine cSk ?_|refine x_block ?_|fail)
 refine lVa rfl rfl (v_shlA rfl rfl (by omega) hsh) ?_
 repeat (first|refine lVa rfl rfl (by first|exact v_sub rfl rfl (by omega) (by omega)|fail) ?_|fail)
 have e : ((q : Nat) : Int) - 1 = ((full n : Nat) : Int) := by omega
 rw [e]
 refine r_call1 (ι := Nat) (v := fun b => .func (.func 47) ⟨[]⟩ ⟨[.pointer (some ⟨b, 0, none⟩)]⟩) (bk := fun b => b) (o := fun _ => .cells ⟨[.int .i64 (full n : Nat)]⟩ 3 (0, 0)) rfl rfl rfl (fun W _ => trees22_calls (full n) W) (fun bs => ?_)
 refine r_callF (pre := []) (ι := RwP (trees n)) (v := RwP.v) (post := RwP.m) rfl rfl rfl (.refl _) (fun W hW _ _ => ?_) (fun i => ?_)
 ·have ho := (hW.own _ List.mem_cons_self).2
  exact sorted21_calls (trees n) (n - 1) bs W (lt_of_heap ho) (fun W1 hW1 => trees_it n h0 h4 bs W1 (hW1.trans ho)) (by omega) hlen (by omega) (trees_ne n h4 h0)
 repeat (first|refine lVa rfl rfl (by first|exact pEv rfl|fail) ?_|refine lNi ?_|refine xTh ?_|refine c_ret ?_|fail)
 exact x_ret rfl rfl (.tmp rfl (.tmp rfl .nil)) rfl (fun W hW => ⟨i, rfl, hW.mono (List.sublist_append_left _ _)⟩)
end R41
end Go.Proofs

set_option maxRecDepth 100000
set_option maxHeartbeats 400000000
namespace Go.Kin.Se
theorem trees_sz : ∀ n, n < 5 -> 0 < n -> (trees n).all (fun cl => decide ((tre n cl).sz <= 1000)) = true := by decide +kernel
end Go.Kin.Se
namespace Go.Proofs
open Go.RowKit Go.Kin Go.Kin.Se Go.Kin.Cl
namespace R41
theorem okTr_of {n : Nat} {cl : List Nat} (h0 : 0 < n) (h4 : n < 5) (h : cl ∈ trees n) : OkTr n cl (tre n cl) /\ chkB n cl = true := by
 have h1 := List.all_eq_true.1 (trees_ok n h4 h0) cl h
 have h2 := of_decide_eq_true (List.all_eq_true.1 (trees_sz n h4 h0) cl h)
 have h3 := of_decide_eq_true (List.all_eq_true.1 (trees_len n h4 h0).2 cl h)
 rw [Bool.and_eq_true] at h1
 have h1 := h1.1
 unfold okT at h1
 simp only [Bool.and_eq_true, decide_eq_true_eq] at h1
 obtain ⟨a1, a2, a3, a4, a5⟩ := h1
 exact ⟨⟨a2, fun i hi => of_decide_eq_true (List.all_eq_true.1 a5 i hi), h2, a3, by omega⟩, a1⟩
/-- what a tree costs for a table -/
def cstF (rows : List RV) (m : Nat) (cl : List Nat) : Nat := csum rows (tre rows.length cl) m
/-- the best trees, among all -/
structure BeOK (cost : List Nat -> Nat) (n : Nat) (es l : List RwE) (c : Nat) : Prop where
 ls : (es.map (·.l)).Perm (trees n)
 ok : ∀ e ∈ es, gOK nE 1 e.l e.c e.r
 ne : l ≠ []
 le : ∀ e ∈ l, e ∈ es /\ cost e.l = c
 mi : ∀ e ∈ es, c <= cost e.l
structure BeI (cost : List Nat -> Nat) (n : Nat) where
 es : List RwE
 l : List RwE
 c : Nat
 b : Nat
 k : Nat
 r : List Value
 ok : BeOK cost n es l c
 gr : gOK RwE.v 1 l k r
def BeI.v {cost : List Nat -> Nat} {n : Nat} (i : BeI cost n) : Value := .tuple ⟨[gSl i.l i.b i.k, .int .i64 i.c, .int .i64 0]⟩
def BeI.m {cost : List Nat -> Nat} {n : Nat} (i : BeI cost n) : List (Nat × Obj) := gM RwE.v 30 i.l i.b i.r ++ i.es.flatMap RwE.m
theorem rwE_get {es : List RwE} {k : Nat} {e : RwE} (h : es[k]? = some e) (r : List Value) : ((es.map RwE.v).flatten ++ r)[k]? = some (gSl e.l e.b e.c) := by
 have hl := (List.getElem?_eq_some_iff.1 h).1
 rw [List.getElem?_append_left (by rw [rwE_len]; omega), rwE_flat, List.getElem?_map, h]; rfl
theorem perm_r {α : Type} {F G : List α} {a b : α} : (a :: b :: (F ++ G)).Perm (G ++ (a :: b :: F)) := List.perm_append_comm (l₁ := a :: b :: F) (l₂ := G)
structure BSt where
 k : Nat
 l : List RwE
 c : Nat
 b : Nat
 q : Nat
 r : List Value
theorem best7_calls (A : Option Addr) (cap : Nat) (rows : List RV) (m : Nat) (w : World) (hA : TabIn w A rows) (hg : Glob w) (hO : OkTab rows m) (h4 : rows.length < 5) :
  Calls Tryz.prog 7 ⟨[.slice A rows.length cap]⟩ w (FrQ [] (BeI.v (cost := cstF rows m) (n := rows.length)) (BeI.m (cost := cstF rows m) (n := rows.length)) w) := by
 have n1 := hO.n1
 have m64 := hO.m64
 obtain ⟨n, hn⟩ : ∃ n, rows.length = n := ⟨_, rfl⟩
 have hsat := frQ_start (W := w) (pre := []) (by simp) fun p hp => by cases hp
 have hbel : ∀ (mem : List (Nat × Obj)) (W : World), SatW w (allBut w (List.map (·.1) ([] : List (Nat × Obj)))) noJ mem W -> Below w.heap.size w W := fun mem W hW => hW.same.below (Nat.le_refl _) fun k hk => ⟨hk, by simp⟩
 have h19 := fun W (hW : Below w.heap.size w W) => table19_calls A cap rows m W (hA.later hW) hO
 have h20 := fun W (hW : Below w.heap.size w W) (cl : List Nat) (hcl : cl ∈ trees rows.length) (Ac : Option Addr) (capc : Nat) (hC : Kin.At W Ac 1 (cl.map nE)) => cost20_calls A cap rows m Ac capc cl (tre rows.length cl) W (hA.later hW) hC (hg.later hW) hO (okTr_of n1 h4 hcl).1
 have hbd : ∀ cl ∈ trees rows.length, cstF rows m cl <= 64000 := fun cl hcl => by
  have h1 := (okTr_of n1 h4 hcl).1
  have := csum_bd rfl h1.lv h1.sz m
  unfold cstF; omega
 have hcf : ∀ cl, csum rows (tre rows.length cl) m = cstF rows m cl := fun _ => rfl
 simp only [hcf] at h20
 obtain ⟨cost, hcost⟩ : ∃ cost, cstF rows m = cost := ⟨_, rfl⟩
 rw [hcost] at h20 hbd ⊢
 rw [hn] at n1 h4 h19 h20 hbd ⊢
 obtain ⟨hl1, hl2⟩ := trees_len n h4 n1
 refine fEn Tryz.func7 rfl Tryz.ntmps7 rfl rfl hsat ?_
 repeat (first|refine lVa rfl rfl (by first|exact pEv rfl|fail) ?_|refine lNi ?_|refine cRg ?_|refine cSq ?_|refine xTh ?_|fail)
 refine r_call rfl rfl rfl (fun W hW => h19 W (hbel _ W hW)) ?_
 repeat (first|refine lVa rfl rfl (by first|exact pEv rfl|fail) ?_|refine lNi ?_|refine cRg ?_|refine cSq ?_|refine xTh ?_|refine c_false rfl ?_|refine cSk ?_|fail)
 refine r_callF (pre := []) (ι := RwP (trees n)) (v := fun i => .tuple ⟨[i.v, .int .i64 0]⟩) (post := RwP.m) rfl rfl rfl (.refl _) (fun W hW _ _ => all8_calls n n1 h4 W) ?_
 rintro ⟨⟨es, be, ce, re⟩, hls, hok, hgr⟩
 simp only [RwP.v, RwP.m, List.append_nil] at hls hok hgr ⊢
 have hese : es ≠ [] := fun e => trees_ne n h4 n1 (by rw [e] at hls; exact List.nil_perm.1 hls)
 have hen : es.length <= 15 := by have := hls.length_eq; rw [List.length_map] at this; omega
 have hmem : ∀ e ∈ es, e.l ∈ trees n := fun e he => hls.mem_iff.1 (List.mem_map.2 ⟨e, he, rfl⟩)
 rw [gSl_ne hese, gM_ne hese]
 have hgr' := fun (_ : Unit) => hgr hese
 clear hgr hbel
 repeat (first|refine lVa rfl rfl (by first|exact pEv rfl|fail) ?_|refine lNi ?_|refine cRg ?_|refine cSq ?_|refine xTh ?_|refine cBl ?_|fail)
 refine c_loop (ι := BSt) (fun s => s.k <= es.length /\ s.l.length <= s.k /\ gOK RwE.v 1 s.l s.q s.r /\ ((s.l = [] /\ s.k = 0) ∨ (s.l ≠ [] /\ (∀ e ∈ s.l, e ∈ es /\ cost e.l = s.c) /\ ∀ e ∈ es.take s.k, s.c <= cost e.l)))
  (fun s => [(0, .slice A n cap), (2, gSl s.l s.b s.q), (3, .int .i64 s.c), (4, .int .i64 0), (21, .slice (some ⟨be, 0, none⟩) es.length ce), (22, .int .i64 es.length), (23, .int .i64 s.k)])
  (fun s => (be, .cells ⟨(es.map RwE.v).flatten ++ re⟩ 30 (0, 0)) :: (es.flatMap RwE.m ++ gM RwE.v 30 s.l s.b s.r)) (fun s => es.length - s.k) ⟨0, [], 0, 0, 0, []⟩ ⟨Nat.zero_le _, Nat.le_refl _, fun h => absurd rfl h, .inl ⟨rfl, rfl⟩⟩ (by repeat (first|exact .nil|refine .cons rfl (by first|rfl|(congr 1; done)|exact congrArg _ (by omega)|(simp; done)) ?_)) (.keep rfl (by simp only [gM, List.append_nil]; exact .refl _)) ?_
 rintro ⟨k, l, c, b, q, r⟩ ⟨hk, hlk, hgl, hI⟩
 simp only at hk hlk hgl hI ⊢
 have hgl' := fun (_ : Unit) => hgl
 have hI' := fun (_ : Unit) => hI
 clear hgl
 by_cases hlt : k < es.length
 rotate_left
 ·have hke : k = es.length := by omega
  subst hke
  clear hI
  repeat (first|refine lVa rfl rfl (by first|exact pEv rfl|fail) ?_|refine lNi ?_|refine cRg ?_|refine cSq ?_|refine xTh ?_|refine c_dec_f rfl (by first|omega|fail) ?_|refine c_ret ?_|refine c_exit ?_|refine xTe ?_|refine xBs ?_|fail)
  refine x_ret rfl rfl (.tmp rfl (.tmp rfl (.tmp rfl .nil))) rfl (fun W hW => ?_)
  rcases hI' () with ⟨_, h⟩ | ⟨h1, h2, h3⟩
  ·exact absurd (List.eq_nil_of_length_eq_zero h) hese
  ·rw [List.take_length] at h3
   exact ⟨⟨es, l, c, b, q, r, ⟨hls, hok, h1, h2, h3⟩, hgl' ()⟩, rfl, (hW.mono (List.sublist_cons_self _ _)).perm List.perm_append_comm⟩
 obtain ⟨e, he⟩ : ∃ e, es[k]? = some e := ⟨_, List.getElem?_eq_getElem hlt⟩
 have hem := List.mem_of_getElem? he
 have hec := hbd e.l (hmem e hem)
 have hcell := rwE_get he re
 obtain ⟨Ae, ke, hAe⟩ := gSl_len (l := e.l) (b := e.b) (cap := e.c)
 obtain ⟨Al, kl, hAl⟩ := gSl_len (l := l) (b := b) (cap := q)
 have hys : (([e] : List RwE).map RwE.v).flatten = [.slice Ae e.l.length ke] := by show [gSl e.l e.b e.c] = _; rw [hAe]
 have hlen : l.length <= 15 /\ (l ≠ [] -> c <= 64000) /\ k <= 15 := ⟨by omega, fun hne => by
  rcases hI with ⟨h, _⟩ | ⟨_, h, _⟩
  ·exact absurd h hne
  ·obtain ⟨x, hx⟩ := List.exists_mem_of_ne_nil _ hne
   obtain ⟨h5, h6⟩ := h x hx
   have := hbd x.l (hmem x h5)
   omega, by omega⟩
 obtain ⟨hl15, hc, hk15⟩ := hlen
 rw [hAe] at hcell
 rw [hAl]
 clear hI
 repeat (first|refine lVa rfl rfl (by first|exact pEv rfl|exact v_index rfl rfl rfl rfl (by omega) (by omega) (by with_reducible first|exact idx1 _|fail)|exact v_load_at rfl (by repeat constructor) rfl rfl (by first|assumption|fail)|fail) ?_|refine lNi ?_|refine cRg ?_|refine cSq ?_|refine xTh ?_|refine c_dec_t rfl (by first|omega|fail) ?_|refine cBl ?_|refine cSk ?_|fail)
 refine r_call rfl rfl rfl (fun W hW => h20 W (hW.same.below (Nat.le_refl _) fun k hk => ⟨hk, by simp⟩) e.l (hmem e hem) Ae ke ?_) ?_
 ·obtain ⟨A2, c2, q1, q2⟩ := rw_at hW (fun p hp => List.mem_cons_of_mem _ (List.mem_append_left _ hp)) hem
  rw [hAe] at q1
  cases q1
  exact q2
 by_cases hl0 : l = []
 ·subst hl0
  have hk0 : k = 0 := by rcases hI' () with ⟨_, h⟩ | ⟨h, _⟩; exact h; exact absurd rfl h
  subst hk0
  have hlz : ([] : List RwE).length = 0 := rfl
  repeat (first|refine lVa rfl rfl (by first|exact pEv rfl|fail) ?_|refine lNi ?_|refine cRg ?_|refine cSq ?_|refine xTh ?_|refine l_skip rfl rfl ?_|refine r_buildSlice rfl rfl rfl rfl rfl rfl (by rfl) (fun _ => ?_)|refine c_true rfl ?_|refine c_dec_t rfl (by first|omega|fail) ?_|fail)
  refine r_appendZ (f := RwE.v) (e := 30) (sz := 1) (xs := []) (ys := [e]) (m := 1) (b := 0) (cap := 0) (rest := []) rfl rfl rfl rfl rfl rfl rfl (by rw [hys]; exact .inr ⟨_, 0, rfl, news_own (by repeat constructor)⟩) (.refl _) (fun h => absurd rfl h) rwE_len gSl_one rfl (by simp only [List.length_nil]; omega) (by unfold maxLen; simp only [List.length_nil]; omega) (fun b8 c8 r8 hg8 => ?_)
  have hg8' := fun (_ : Unit) => hg8
  clear hg8
  repeat (first|refine lVa rfl rfl (by first|exact v_add rfl rfl (by omega) (by omega)|exact pEv rfl|fail) ?_|refine lNi ?_|refine cRg ?_|refine xTh ?_|refine x_block ?_|fail)
  refine x_perm List.perm_append_comm (x_sub _ ((((List.sublist_append_left _ _).append (List.Sublist.refl _)).cons_cons _).cons _) ?_)
  exact x_back ⟨0 + 1, [e], cost e.l, b8, c8, r8⟩ ⟨hlt, Nat.le_refl _, hg8' (), .inr ⟨by simp, fun x hx => by rw [List.mem_singleton.1 hx]; exact ⟨hem, rfl⟩, fun x hx => by
   rw [List.take_add_one, he] at hx
   rcases List.mem_append.1 hx with hx | hx
   ·simp at hx
   ·simp only [Option.toList_some, List.mem_singleton] at hx
    rw [hx]; exact Nat.le_refl _⟩⟩ (by simp only; omega) (by repeat (first|exact .nil|refine .cons rfl (by first|rfl|(congr 1; done)|exact congrArg _ (by omega)|(simp; done)) ?_)) (by repeat (first|exact .nil|refine .keep (by first|rfl|assumption) ?_|refine .drop ?_|exact MSub.refl _))
 have hl1 : l.length ≠ 0 := fun h => hl0 (List.eq_nil_of_length_eq_zero h)
 obtain ⟨h1, h2, h3⟩ : l ≠ [] /\ (∀ e ∈ l, e ∈ es /\ cost e.l = c) /\ ∀ e ∈ es.take k, c <= cost e.l := by rcases hI' () with ⟨h, _⟩ | h; exact absurd h hl0; exact h
 have hc := hc hl0
 by_cases hnc : cost e.l < c
 ·repeat (first|refine lVa rfl rfl (by first|exact pEv rfl|fail) ?_|refine lNi ?_|refine cRg ?_|refine cSq ?_|refine xTh ?_|refine r_buildSlice rfl rfl rfl rfl rfl rfl (by rfl) (fun _ => ?_)|refine c_dec_t rfl (by first|omega|fail) ?_|refine l_dec_f rfl rfl rfl rfl rfl (by first|omega|fail) ?_|fail)
  refine r_appendZ (f := RwE.v) (e := 30) (sz := 1) (xs := []) (ys := [e]) (m := 1) (b := 0) (cap := 0) (rest := []) rfl rfl rfl rfl rfl rfl rfl (by rw [hys]; exact .inr ⟨_, 0, rfl, news_own (by repeat constructor)⟩) (.refl _) (fun h => absurd rfl h) rwE_len gSl_one rfl (by simp only [List.length_nil]; omega) (by unfold maxLen; simp only [List.length_nil]; omega) (fun b8 c8 r8 hg8 => ?_)
  have hg8' := fun (_ : Unit) => hg8
  clear hg8
  repeat (first|refine lVa rfl rfl (by first|exact v_add rfl rfl (by omega) (by omega)|exact pEv rfl|fail) ?_|refine lNi ?_|refine cRg ?_|refine xTh ?_|refine x_block ?_|fail)
  refine x_perm List.perm_append_comm (x_sub _ ((((List.sublist_append_left _ _).append (List.Sublist.refl _)).cons_cons _).cons _) ?_)
  exact x_back ⟨k + 1, [e], cost e.l, b8, c8, r8⟩ ⟨hlt, Nat.succ_le_succ (Nat.zero_le _), hg8' (), .inr ⟨by simp, fun x hx => by rw [List.mem_singleton.1 hx]; exact ⟨hem, rfl⟩, fun x hx => by
   rw [List.take_add_one, he] at hx
   rcases List.mem_append.1 hx with hx | hx
   ·exact Nat.le_trans (Nat.le_of_lt hnc) (h3 x hx)
   ·simp only [Option.toList_some, List.mem_singleton] at hx
    rw [hx]; exact Nat.le_refl _⟩⟩ (by simp only; omega) (by repeat (first|exact .nil|refine .cons rfl (by first|rfl|(congr 1; done)|exact congrArg _ (by omega)|(simp; done)) ?_)) (by repeat (first|exact .nil|refine .keep (by first|rfl|assumption) ?_|refine .drop ?_|exact MSub.refl _))
 by_cases heq : cost e.l = c
 ·repeat (first|refine lVa rfl rfl (by first|exact pEv rfl|fail) ?_|refine lNi ?_|refine cRg ?_|refine cSq ?_|refine xTh ?_|refine r_buildSlice rfl rfl rfl rfl rfl rfl (by rfl) (fun _ => ?_)|refine c_dec_t rfl (by first|omega|fail) ?_|refine c_dec_f rfl (by first|omega|fail) ?_|refine cSk ?_|refine l_dec_f rfl rfl rfl rfl rfl (by first|omega|fail) ?_|fail)
  refine r_appendZ (f := RwE.v) (e := 30) (sz := 1) (xs := l) (ys := [e]) (m := 1) rfl rfl (congrArg some hAl.symm) rfl rfl rfl rfl (by rw [hys]; exact .inr ⟨_, 0, rfl, news_own (by repeat constructor)⟩) perm_r (hgl' ()) rwE_len gSl_one rfl (by omega) (by unfold maxLen; omega) (fun b8 c8 r8 hg8 => ?_)
  have hg8' := fun (_ : Unit) => hg8
  clear hg8
  repeat (first|refine lVa rfl rfl (by first|exact v_add rfl rfl (by omega) (by omega)|exact pEv rfl|fail) ?_|refine lNi ?_|refine cRg ?_|refine xTh ?_|refine x_block ?_|fail)
  refine x_perm List.perm_append_comm (x_sub _ (List.sublist_cons_self _ _) ?_)
  exact x_back ⟨k + 1, l ++ [e], c, b8, c8, r8⟩ ⟨hlt, by simp only [List.length_append, List.length_singleton]; omega, hg8' (), .inr ⟨by simp, fun x hx => by
   rcases List.mem_append.1 hx with hx | hx
   ·exact h2 x hx
   ·rw [List.mem_singleton.1 hx]; exact ⟨hem, heq⟩, fun x hx => by
   rw [List.take_add_one, he] at hx
   rcases List.mem_append.1 hx with hx | hx
   ·exact h3 x hx
   ·simp only [Option.toList_some, List.mem_singleton] at hx
    rw [hx]; exact Nat.le_of_eq heq.symm⟩⟩ (by simp only; omega) (by repeat (first|exact .nil|refine .cons rfl (by first|rfl|(congr 1; done)|exact congrArg _ (by omega)|(simp; done)) ?_)) (by repeat (first|exact .nil|refine .keep (by first|rfl|assumption) ?_|refine .drop ?_|exact MSub.refl _))
 ·repeat (first|refine lVa rfl rfl (by first|exact v_add rfl rfl (by omega) (by omega)|exact pEv rfl|fail) ?_|refine lNi ?_|refine cRg ?_|refine cSq ?_|refine xTh ?_|refine c_dec_f rfl (by first|omega|fail) ?_|refine cSk ?_|refine x_block ?_|refine l_dec_f rfl rfl rfl rfl rfl (by first|omega|fail) ?_|fail)
  exact x_back ⟨k + 1, l, c, b, q, r⟩ ⟨hlt, by simp only; omega, hgl' (), .inr ⟨h1, h2, fun x hx => by
   rw [List.take_add_one, he] at hx
   rcases List.mem_append.1 hx with hx | hx
   ·exact h3 x hx
   ·simp only [Option.toList_some, List.mem_singleton] at hx
    rw [hx]; exact Nat.le_of_not_lt hnc⟩⟩ (by simp only; omega) (by simp only [hAl]; exact (by repeat (first|exact .nil|refine .cons rfl (by first|rfl|(congr 1; done)|exact congrArg _ (by omega)|(simp; done)) ?_))) (by repeat (first|exact .nil|refine .keep (by first|rfl|assumption) ?_|refine .drop ?_|exact MSub.refl _))
end R41
end Go.Proofs

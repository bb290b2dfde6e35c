/- The engine: slices and pointers compared with nil. Generic: no program is named here. -/
import Derived.Test.YtdegengehbdelaaGreatDoorEng50
import Derived.Test.YtdegengehbdelaaGreatDoorSfG
set_option linter.unusedSectionVars false
set_option linter.unusedVariables false
set_option linter.unusedSimpArgs false
namespace Go
open Go.RowKit
namespace Kin
section
variable {P : Program} {N : Nat} {c : Cx} {env : List (Nat × Value)} {mem : List (Nat × Obj)} {tt : List (TypeId × TI)} {ty : TypeId} {pos : String} {af : Array Edge} {g : Option (Nat × Bool)} {dd : Option Tmp}
theorem v_eqNilS [T : TT P tt] {t t' e n m sz bt : Nat} {z : Value} {ad : Addr} {x : Operand} (ht : look tt t = some ⟨.slice e, sz, bt, z⟩) (hx : evOp env x = some (.slice (some ad) n m)) :
  OpVal P N c env mem ⟨dd, .binOp .eql t x (.const (.slice none 0 0)) t', ty, pos, af, g⟩ (.bool false) := by
 have hu : P.underlying t = some (.slice e) := (TT.look (P := P) ht).1
 refine ⟨rfl, fun a W ha _ => ?_⟩
 have h1 : (eqGuard .eql t x (.const (.slice none 0 0)) (.slice (some ad) n m) (.slice none 0 0)).run P W = .ok () W := by
  unfold eqGuard; simp [Sem.run, pure]
 have h2 : (Op.equal t (.slice (some ad) n m) (.slice none 0 0)).run P W = .ok false W := by
  show (Op.equalIn (9999 + 1) t _ _).run P W = _
  rw [Op.equalIn]
  simp only [Sem.run_bind, run_und hu, Result.andThen_ok]; rfl
 have h3 : a.eval (.const (.slice none 0 0)) = .slice none 0 0 := rfl
 simp only [execOp, ha.eval hx, h3, Sem.run_bind, h1, Result.andThen_ok, binOp, h2]
 rfl
theorem v_eqNilS0 [T : TT P tt] {t t' e sz bt : Nat} {z : Value} {x : Operand} (ht : look tt t = some ⟨.slice e, sz, bt, z⟩) (hx : evOp env x = some (.slice none 0 0)) :
  OpVal P N c env mem ⟨dd, .binOp .eql t x (.const (.slice none 0 0)) t', ty, pos, af, g⟩ (.bool true) := by
 have hu : P.underlying t = some (.slice e) := (TT.look (P := P) ht).1
 refine ⟨rfl, fun a W ha _ => ?_⟩
 have h1 : (eqGuard .eql t x (.const (.slice none 0 0)) (.slice none 0 0) (.slice none 0 0)).run P W = .ok () W := by
  unfold eqGuard; simp [Sem.run, pure]
 have h2 : (Op.equal t (.slice none 0 0) (.slice none 0 0)).run P W = .ok true W := by
  show (Op.equalIn (9999 + 1) t _ _).run P W = _
  rw [Op.equalIn]
  simp only [Sem.run_bind, run_und hu, Result.andThen_ok]; rfl
 have h3 : a.eval (.const (.slice none 0 0)) = .slice none 0 0 := rfl
 simp only [execOp, ha.eval hx, h3, Sem.run_bind, h1, Result.andThen_ok, binOp, h2]
 rfl
theorem v_eqNilP {t t' e : TypeId} {ad : Addr} {x : Operand} (hu : P.underlying t = some (.pointer e)) (hx : evOp env x = some (.pointer (some ad))) :
  OpVal P N c env mem ⟨dd, .binOp .eql t x (.const (.pointer none)) t', ty, pos, af, g⟩ (.bool false) := by
 refine ⟨rfl, fun a W ha _ => ?_⟩
 have h1 : (eqGuard .eql t x (.const (.pointer none)) (.pointer (some ad)) (.pointer none)).run P W = .ok () W := by
  unfold eqGuard; simp [Sem.run, pure]
 have h2 : (Op.equal t (.pointer (some ad)) (.pointer none)).run P W = .ok false W := by
  show (Op.equalIn (9999 + 1) t _ _).run P W = _
  rw [Op.equalIn]
  simp only [Sem.run_bind, run_und hu, Result.andThen_ok]; rfl
 have h3 : a.eval (.const (.pointer none)) = .pointer none := rfl
 simp only [execOp, ha.eval hx, h3, Sem.run_bind, h1, Result.andThen_ok, binOp, h2]
 rfl
theorem v_eqNilP0 {t t' e : TypeId} {x : Operand} (hu : P.underlying t = some (.pointer e)) (hx : evOp env x = some (.pointer none)) :
  OpVal P N c env mem ⟨dd, .binOp .eql t x (.const (.pointer none)) t', ty, pos, af, g⟩ (.bool true) := by
 refine ⟨rfl, fun a W ha _ => ?_⟩
 have h1 : (eqGuard .eql t x (.const (.pointer none)) (.pointer none) (.pointer none)).run P W = .ok () W := by
  unfold eqGuard; simp [Sem.run, pure]
 have h2 : (Op.equal t (.pointer none) (.pointer none)).run P W = .ok true W := by
  show (Op.equalIn (9999 + 1) t _ _).run P W = _
  rw [Op.equalIn]
  simp only [Sem.run_bind, run_und hu, Result.andThen_ok]; rfl
 have h3 : a.eval (.const (.pointer none)) = .pointer none := rfl
 simp only [execOp, ha.eval hx, h3, Sem.run_bind, h1, Result.andThen_ok, binOp, h2]
 rfl
end
end Kin
end Go

set_option maxRecDepth 100000
set_option maxHeartbeats 400000000
namespace Go.Proofs
open Go.RowKit Go.Kin Go.Kin.Se Go.Kin.Cl
namespace R41
theorem reasons26_calls (w : World) : Calls Tryz.prog 26 ⟨[]⟩ w fun e w' => ∃ b : Nat, e = .returned (.map (some b)) /\ Below w.heap.size w w' := by
 refine fEn Tryz.func26 rfl Tryz.ntmps26 rfl rfl (sWn w) ?_
 repeat (first|refine lVa rfl rfl (by first|exact pEv rfl|exact v_build rfl rfl (by rfl)|fail) ?_|refine lNi ?_|refine cRg ?_|refine cSq ?_|refine xTh ?_|refine r_makeMap rfl rfl (fun _ => ?_)|fail)
 refine l_do rfl (d_imIns (s := []) (k := 1) (v := .agg ⟨[.func (.func 58) ⟨[]⟩ ⟨[]⟩]⟩) rfl rfl rfl rfl rfl (by repeat constructor)) ?_
 repeat (first|refine lVa rfl rfl (by first|exact v_build rfl rfl (by rfl)|fail) ?_|fail)
 refine l_do rfl (d_imIns (k := 2) (v := .agg ⟨[.func (.func 59) ⟨[]⟩ ⟨[]⟩]⟩) rfl rfl rfl rfl rfl (by repeat constructor)) ?_
 repeat (first|refine lVa rfl rfl (by first|exact v_build rfl rfl (by rfl)|fail) ?_|fail)
 refine l_do rfl (d_imIns (k := 3) (v := .agg ⟨[.func (.func 60) ⟨[]⟩ ⟨[]⟩]⟩) rfl rfl rfl rfl rfl (by repeat constructor)) ?_
 repeat (first|refine lVa rfl rfl (by first|exact pEv rfl|fail) ?_|refine lNi ?_|refine xTh ?_|refine c_ret ?_|fail)
 rename_i b
 exact x_ret rfl rfl (by repeat constructor) rfl (fun W hW => ⟨b, rfl, hW.below⟩)
theorem clone29_nil (w : World) : Calls Tryz.prog 29 ⟨[.slice none 0 0]⟩ w fun e w' => e = .returned (.slice none 0 0) /\ Below w.heap.size w w' := by
 refine fEn Tryz.func29 rfl Tryz.ntmps29 rfl rfl (sWn w) ?_
 repeat (first|refine lVa rfl rfl (by first|exact pEv rfl|fail) ?_|refine lNi ?_|refine cRg ?_|refine cSq ?_|refine xTh ?_|refine c_true rfl ?_|refine c_ret ?_|refine xTr ?_|refine lVa rfl rfl (v_eqNilS0 rfl rfl) ?_|fail)
 exact x_ret rfl rfl (by repeat constructor) rfl (fun W hW => ⟨rfl, hW.below⟩)
theorem clone30_nil (w : World) : Calls Tryz.prog 30 ⟨[.slice none 0 0]⟩ w fun e w' => e = .returned (.slice none 0 0) /\ Below w.heap.size w w' := by
 refine fEn Tryz.func30 rfl Tryz.ntmps30 rfl rfl (sWn w) ?_
 repeat (first|refine lVa rfl rfl (by first|exact pEv rfl|fail) ?_|refine lNi ?_|refine cRg ?_|refine cSq ?_|refine xTh ?_|refine c_true rfl ?_|refine c_ret ?_|refine xTr ?_|refine lVa rfl rfl (v_eqNilS0 rfl rfl) ?_|fail)
 exact x_ret rfl rfl (by repeat constructor) rfl (fun W hW => ⟨rfl, hW.below⟩)
theorem clone29_calls (b o cap : Nat) (l : List Nat) (w : World) (hA : Kin.At w (some ⟨b, o, none⟩) 1 (l.map nE)) (hl : l ≠ []) (hlen : l.length <= 1000) :
  Calls Tryz.prog 29 ⟨[.slice (some ⟨b, o, none⟩) l.length cap]⟩ w (NwQ l w) := by
 refine fEn Tryz.func29 rfl Tryz.ntmps29 rfl rfl (sWn w) ?_
 repeat (first|refine lVa rfl rfl (by first|exact pEv rfl|fail) ?_|refine lNi ?_|refine cRg ?_|refine cSq ?_|refine xTh ?_|refine r_buildSlice rfl rfl rfl rfl rfl rfl (by rfl) (fun _ => ?_)|refine c_false rfl ?_|refine cSk ?_|refine lVa rfl rfl (v_eqNilS rfl rfl) ?_|fail)
 refine r_append (xs := []) (rest := []) (n := 0) (cap := 0) (ys := (l.map nE).flatten) rfl rfl rfl rfl rfl rfl (by
  rcases newsG_nE (c := ⟨_, _, _, _, _, _⟩) (l := l) (fun W hW => hA.sat hW) (fun _ => ⟨b, o, rfl⟩) with ⟨h, _⟩ | ⟨_, _, e, h⟩
  ·exact absurd (List.eq_nil_of_length_eq_zero h) hl
  ·cases e; exact h) Rem.head ⟨rfl, rfl, Nat.le_refl _, Nat.zero_le _⟩ (nE_len l) nE_oneX rfl (by omega) (by unfold maxLen; omega) (fun b' c' r' hg => ?_)
 rw [Nat.zero_add] at hg ⊢
 rw [List.nil_append] at hg ⊢
 have hg' := fun (_ : Unit) => hg
 clear hg
 repeat (first|refine lVa rfl rfl (by first|exact pEv rfl|fail) ?_|refine lNi ?_|refine xTh ?_|refine c_ret ?_|fail)
 refine x_ret rfl rfl (by repeat constructor) rfl (fun W hW => ?_)
 have h := hW.own (b', _) (by repeat constructor)
 exact ⟨⟨(b', c', r'), hg' ()⟩, rfl, hW.below, Nat.le_of_not_lt h.1, h.2⟩
end R41
end Go.Proofs

set_option maxRecDepth 100000
set_option maxHeartbeats 400000000
namespace Go.Proofs
open Go.RowKit Go.Kin Go.Kin.Se Go.Kin.Cl
namespace R41
/-- numbers in a block of their own, or nil -/
def GwI (f : Nat -> List Value) (l : List Nat) : Type := { p : Nat × Nat × List Value // gOK f 1 l p.2.1 p.2.2 }
theorem clone29_g (b c : Nat) (l : List Nat) (w : World) (hA : l ≠ [] -> Kin.At w (some ⟨b, 0, none⟩) 1 (l.map nE)) (hlen : l.length <= 1000) :
  Calls Tryz.prog 29 ⟨[gSl l b c]⟩ w (FrQ [] (fun i : GwI nE l => gSl l i.1.1 i.1.2.1) (fun i => gM nE 3 l i.1.1 i.1.2.2) w) := by
 by_cases hl : l = []
 ·subst hl
  refine (clone29_nil w).mono ?_
  rintro e w' ⟨h1, h2⟩
  refine ⟨⟨(0, 0, []), fun h => absurd rfl h⟩, h1, frQ_base ⟨Same.of_below_all h2 |>.mono fun b hb => hb, fun b hb => hb, List.nodup_nil, fun p hp => (by cases hp), closed_noJ, trivial⟩⟩
 ·rw [gSl_ne hl]
  refine (clone29_calls b 0 c l w (hA hl) hl hlen).mono ?_
  rintro e w' ⟨i, h1, h2, h3, h4⟩
  refine ⟨⟨i.1, fun _ => i.2⟩, by show e = .returned (gSl l i.1.1 i.1.2.1); rw [gSl_ne hl]; exact h1, ?_⟩
  show SatW w _ noJ (gM nE 3 l i.1.1 i.1.2.2) w'
  rw [gM_ne hl]
  exact frQ_base ⟨Same.of_below_all h2 |>.mono fun b hb => hb, fun b hb => hb, by simp, fun p hp => by rw [List.mem_singleton.1 hp]; exact ⟨fun h => Nat.lt_irrefl _ (Nat.lt_of_lt_of_le h h3), h4⟩, closed_noJ, trivial⟩
/-- the edition's reading at a locus -/
def rdK (rows : List RV) (t : Tr) (k : Nat) : Int := if ownR rows k 0 ∈ rtL rows t k then ownR rows k 0 else (rtL rows t k).headD 0
def rdL (rows : List RV) (t : Tr) (m : Nat) : List Int := (List.range m).map (rdK rows t)
theorem rdL_succ {rows : List RV} {t : Tr} {m : Nat} : rdL rows t (m + 1) = rdL rows t m ++ [rdK rows t m] := by
 unfold rdL
 rw [List.range_succ, List.map_append]; rfl
theorem rdL_len {rows : List RV} {t : Tr} {m : Nat} : (rdL rows t m).length = m := by unfold rdL; rw [List.length_map, List.length_range]
/-- an edition in blocks of its own -/
structure EdI (cl : List Nat) (rd : List Int) where
 b1 : Nat
 c1 : Nat
 r1 : List Value
 b2 : Nat
 c2 : Nat
 r2 : List Value
 g1 : gOK nE 1 cl c1 r1
 g2 : gOK inE 1 rd c2 r2
def EdI.a {cl : List Nat} {rd : List Int} (no : Int) (i : EdI cl rd) : Value := .agg ⟨[.int .i64 no, gSl cl i.b1 i.c1, .slice none 0 0, gSl rd i.b2 i.c2]⟩
def EdI.m {cl : List Nat} {rd : List Int} (i : EdI cl rd) : List (Nat × Obj) := gM nE 3 cl i.b1 i.r1 ++ gM inE 3 rd i.b2 i.r2
theorem rzE_flat (es : List RzE) : (es.map RzE.v).flatten = es.map fun e => gSl e.l e.b e.c := by
 induction es with
 | nil => rfl
 | cons e es ih => rw [List.map_cons, List.flatten_cons, ih]; rfl
theorem rzE_get {es : List RzE} {k : Nat} {e : RzE} (h : es[k]? = some e) (r : List Value) : ((es.map RzE.v).flatten ++ r)[k]? = some (gSl e.l e.b e.c) := by
 have hl := (List.getElem?_eq_some_iff.1 h).1
 rw [List.getElem?_append_left (by rw [rzE_len]; omega), rzE_flat, List.getElem?_map, h]; rfl
theorem rz_mem {es : List RzE} {e : RzE} (he : e ∈ es) (hl : e.l ≠ []) : (e.b, Obj.cells ⟨(e.l.map inE).flatten ++ e.r⟩ 3 (0, 0)) ∈ es.flatMap RzE.m := by
 refine List.mem_flatMap.2 ⟨e, he, ?_⟩
 unfold RzE.m
 rw [gM_ne hl]
 exact List.mem_singleton.2 rfl
theorem perm_r3 {α : Type} {a b c : α} {F C R : List α} : (R ++ (a :: b :: c :: (F ++ C))).Perm (a :: b :: c :: (F ++ (C ++ R))) := by
 rw [<- List.append_assoc]
 exact List.perm_append_comm (l₂ := a :: b :: c :: (F ++ C))
theorem perm_t3 {α : Type} {a b c : α} {F C R : List α} : (a :: b :: c :: (F ++ (C ++ R))).Perm (R ++ (a :: b :: c :: (F ++ C))) := perm_r3.symm
structure MSt where
 k : Nat
 b : Nat
 c : Nat
 r : List Value
theorem make10_calls (A : Option Addr) (cap : Nat) (rows : List RV) (m : Nat) (bA cA : Nat) (cl : List Nat) (t : Tr) (no : Int) (w : World) (hA : TabIn w A rows) (hC : cl ≠ [] -> Kin.At w (some ⟨bA, 0, none⟩) 1 (cl.map nE)) (hg : Glob w) (hO : OkTab rows m) (hT : OkTr rows.length cl t) (hk : chkB rows.length cl = true)
  (hroot : ∀ l r, t = .nd l r -> t.st ∈ cl) (hno : 0 <= no /\ no <= 1048576) :
  Calls Tryz.prog 10 ⟨[.slice A rows.length cap, .int .i64 no, gSl cl bA cA, .slice none 0 0]⟩ w (FrQ [] (fun i : EdI cl (rdL rows t m) => .tuple ⟨[i.a no, .int .i64 0]⟩) (fun i => i.m) w) := by
 have n1 := hO.n1
 have n5 := hO.n5
 have m64 := hO.m64
 have hcl := hT.cll
 obtain ⟨no1, no2⟩ := hno
 obtain ⟨Ac, kc, hAc, hAt⟩ : ∃ Ac kc, gSl cl bA cA = .slice Ac cl.length kc /\ Kin.At w Ac 1 (cl.map nE) := by
  by_cases hl : cl = []
  ·subst hl; exact ⟨none, 0, rfl, fun i r hr => by simp at hr⟩
  ·exact ⟨_, _, gSl_ne hl, hC hl⟩
 have h25 := fun W (hW : Below w.heap.size w W) => roots25_calls A cap rows m Ac kc cl t W (hA.later hW) (hAt.later hW) (hg.later hW) hO hT hk hroot
 have h29 := fun W (hW : Below w.heap.size w W) => clone29_g bA cA cl W (fun h => (hC h).later hW) hcl
 obtain ⟨n, hn⟩ : ∃ n, rows.length = n := ⟨_, rfl⟩
 obtain ⟨v0, hv0⟩ : ∃ v, rows[0]? = some v := ⟨_, List.getElem?_eq_getElem (by omega)⟩
 have hv0m := List.mem_of_getElem? hv0
 obtain ⟨b0, o0, hA0, hc0⟩ := hA.ar 0 (rvE v0) (by rw [List.getElem?_map, hv0]; rfl)
 have x0 := ext_of hc0
 rw [Nat.mul_one, Nat.add_zero, hO.len v0 hv0m] at x0
 rw [hA0] at h25 ⊢
 rw [hn] at n1 n5 h25 ⊢
 rw [hAc] at h29 ⊢
 refine fEn Tryz.func10 rfl Tryz.ntmps10 rfl rfl (sWn w) ?_
 repeat (first|refine lVa rfl rfl (by first|exact pEv rfl|fail) ?_|refine lNi ?_|refine cRg ?_|refine cSq ?_|refine xTh ?_|refine r_alloc rfl rfl rfl (by first|exact aggL|fail) (fun _ => ?_)|fail)
 rename_i b8
 refine r_callF (pre := []) (ι := RzI (rtsL rows t m)) (v := RzI.v) (post := RzI.m) rfl rfl rfl (.refl _) (fun W hW _ _ => h25 W hW.below) ?_
 rintro ⟨⟨es, bl, c, r⟩, hls, hok, hgr⟩
 simp only [RzI.v, RzI.m] at hls hok hgr ⊢
 have hel : es.length = m := by
  have := congrArg List.length hls
  unfold rtsL at this
  rw [List.length_map, List.length_map, List.length_range] at this
  exact this
 obtain ⟨Ae, ke, hAe⟩ := gSl_len (l := es) (b := bl) (cap := c)
 have hAe' : es ≠ [] -> Ae = some ⟨bl, 0, none⟩ := fun h => by
  rw [gSl_ne h] at hAe
  cases hAe; rfl
 rw [hAe, hel]
 clear h25
 repeat (first|refine lVa rfl rfl (by first|exact pEv rfl|fail) ?_|refine lNi ?_|refine cRg ?_|refine cSq ?_|refine xTh ?_|refine c_false rfl ?_|refine c_dec_f rfl (by first|omega|exact fun h => h rfl|fail) ?_|refine cSk ?_|refine l_dec_f rfl rfl rfl rfl rfl (by first|omega|exact fun h => h rfl|fail) ?_|fail)
 refine r_callI (ι := Nat) (v := fun b => .map (some b)) rfl rfl rfl (fun W _ => reasons26_calls W) (fun bm => ?_)
 repeat (first|refine lVa rfl rfl (by first|exact pEv rfl|fail) ?_|refine lNi ?_|refine cRg ?_|refine cSq ?_|refine xTh ?_|refine cBl ?_|fail)
 refine c_perm List.perm_append_comm ?_
 refine c_loop (ι := Unit) (fun _ => True) (fun _ => [(0, .slice (some ⟨b0, o0, none⟩) n cap), (1, .int .i64 no), (2, .slice Ac cl.length kc), (3, .slice none 0 0), (8, .pointer (some ⟨b8, 0, none⟩)), (9, .int .i64 0), (10, .slice Ae m ke), (39, .slice none 0 0), (40, .int .i64 0), (41, .int .i64 0)])
  (fun _ => (b8, .cells ⟨[.int .i64 0, .slice none 0 0, .slice none 0 0, .slice none 0 0]⟩ 38 (0, 0)) :: (gM RzE.v 30 es bl r ++ es.flatMap RzE.m)) (fun _ => 0) () trivial (by repeat (first|exact .nil|refine .cons rfl (by first|rfl|(congr 1; done)|exact congrArg _ (by omega)|(simp; done)) ?_)) (.refl _) ?_
 rintro - -
 repeat (first|refine lVa rfl rfl (by first|exact pEv rfl|fail) ?_|refine lNi ?_|refine cRg ?_|refine cSq ?_|refine xTh ?_|refine c_false rfl ?_|refine c_exit ?_|refine xTe ?_|refine xBs ?_|fail)
 refine r_callF (pre := []) (ι := GwI nE cl) (v := fun i => gSl cl i.1.1 i.1.2.1) (post := fun i => gM nE 3 cl i.1.1 i.1.2.2) rfl rfl rfl (.refl _) (fun W hW _ _ => h29 W hW.below) ?_
 rintro ⟨⟨bc, cc, rc⟩, hgc⟩
 simp only at hgc ⊢
 refine l_perm perm_m ?_
 repeat (first|refine lVa rfl rfl (by first|exact pEv rfl|fail) ?_|fail)
 refine r_call rfl rfl rfl (fun W _ => clone30_nil W) ?_
 obtain ⟨Ab, kb, hAb⟩ := gSl_len (l := cl) (b := bc) (cap := cc)
 rw [hAb]
 repeat (first|refine lVa rfl rfl (by first|exact pEv rfl|exact v_build rfl rfl (by rfl)|fail) ?_|refine lNi ?_|refine cRg ?_|refine cSq ?_|refine xTh ?_|refine rSt rfl rfl rfl rfl rfl rfl rfl (by repeat constructor) (by rfl) ?_|refine cBl ?_|fail)
 refine c_loop (ι := MSt) (fun s => s.k <= m /\ gOK inE 1 (rdL rows t s.k) s.c s.r) (fun s => [(0, .slice (some ⟨b0, o0, none⟩) n cap), (8, .pointer (some ⟨b8, 0, none⟩)), (17, .slice none 0 0), (89, .slice Ae m ke), (90, .int .i64 m), (91, .int .i64 s.k)])
  (fun s => (b8, .cells ⟨[.int .i64 no, .slice Ab cl.length kb, .slice none 0 0, gSl (rdL rows t s.k) s.b s.c]⟩ 38 (0, 0)) :: (gM RzE.v 30 es bl r ++ (es.flatMap RzE.m ++ (gM nE 3 cl bc rc ++ gM inE 3 (rdL rows t s.k) s.b s.r)))) (fun s => m - s.k) ⟨0, 0, 0, []⟩ ⟨Nat.zero_le _, fun h => absurd rfl h⟩ (by repeat (first|exact .nil|refine .cons rfl (by first|rfl|(congr 1; done)|exact congrArg _ (by omega)|(simp; done)) ?_)) (.keep rfl (by show MSub _ (_ ++ (_ ++ (_ ++ []))); rw [List.append_nil]; exact .refl _)) ?_
 rintro ⟨k, bd, cd, rd⟩ ⟨hkm, hgd⟩
 simp only at hkm hgd ⊢
 have hgd' := fun (_ : Unit) => hgd
 clear hgd
 by_cases hlt : k < m
 rotate_left
 ·have hke : k = m := by omega
  subst hke
  obtain ⟨Ad, kd, hAd⟩ := gSl_len (l := rdL rows t k) (b := bd) (cap := cd)
  rw [hAd]
  repeat (first|refine lVa rfl rfl (by first|exact pEv rfl|exact vLd rfl (by repeat constructor) rfl (by rfl)|fail) ?_|refine lNi ?_|refine cRg ?_|refine cSq ?_|refine xTh ?_|refine rSt rfl rfl rfl rfl rfl rfl rfl (by repeat constructor) (by rfl) ?_|refine c_dec_f rfl (by first|omega|fail) ?_|refine c_ret ?_|refine c_exit ?_|refine xTe ?_|refine xBs ?_|fail)
  refine x_ret rfl rfl (.cell rfl (by repeat constructor) rfl rfl (.tmp rfl .nil)) rfl (fun W hW => ⟨⟨bc, cc, rc, bd, cd, rd, hgc, hgd' ()⟩, ?_, ?_⟩)
  ·show _ = Ending.returned (.tuple ⟨[.agg ⟨[.int .i64 no, gSl cl bc cc, .slice none 0 0, gSl (rdL rows t k) bd cd]⟩, .int .i64 0]⟩)
   rw [hAb, hAd]
  ·exact (frQ_base hW).mono (((List.sublist_append_right _ _).trans (List.sublist_append_right _ _)).trans (List.sublist_cons_self _ _))
 have hes : es ≠ [] := fun e => by rw [e] at hel; simp at hel; omega
 obtain ⟨e, he⟩ : ∃ e, es[k]? = some e := ⟨_, List.getElem?_eq_getElem (by omega)⟩
 have hem := List.mem_of_getElem? he
 have hell : e.l = rtL rows t k := by
  have h1 : (es.map (·.l))[k]? = some e.l := by rw [List.getElem?_map, he]; rfl
  rw [hls] at h1
  unfold rtsL at h1
  rw [List.getElem?_map, List.getElem?_range hlt] at h1
  exact (Option.some.inj h1).symm
 have hcod : ∀ v ∈ rows, 0 <= v.l.getD k lost := fun v hv => by
  rw [List.getD_eq_getElem?_getD]
  cases h : v.l[k]? with
  | none => show 0 <= lost; unfold lost; omega
  | some s => exact (hO.cod v hv s (List.mem_of_getElem? h)).1
 have hfit := stS_fit (j := k) hcod hT.lv
 have hrne : e.l ≠ [] := by rw [hell]; exact rts_ne hfit
 have hrl : e.l.length <= 100 := by
  rw [hell]
  unfold rtL rts
  have h1 := List.length_filter_le (fun s => decide (bel (stS rows k) (ownR rows k) t s = some (prc (stS rows k) (ownR rows k) t))) (stS rows k)
  have h2 := stS_len rows k
  omega
 have hcell := rzE_get he r
 have hmem := rz_mem hem hrne
 rw [gSl_ne hrne] at hcell
 obtain ⟨o, ho⟩ : ∃ o, v0.l[k]? = some o := ⟨_, List.getElem?_eq_getElem (by rw [hO.len v0 hv0m]; exact hlt)⟩
 obtain ⟨bv, ov, hAv, hcv⟩ := hA.row v0 hv0m k (inE o) (by rw [List.getElem?_map, ho]; rfl)
 have y2 := ext_of hcv
 rw [Nat.mul_one] at y2
 rw [hAv] at x0
 have hown : ownR rows k 0 = o := by
  unfold ownR
  rw [List.getD_eq_getElem?_getD, List.getD_eq_getElem?_getD, List.getElem?_map, hv0]
  show (v0.l[k]?).getD lost = o
  rw [ho]; rfl
 have hrd : rdL rows t (k + 1) = rdL rows t k ++ [if o ∈ e.l then o else e.l.headD 0] := by
  rw [rdL_succ]
  unfold rdK
  rw [hown, hell]
 have hrdl : (rdL rows t k).length = k := rdL_len
 obtain ⟨rt, eb, ec, er⟩ := e
 simp only at hell hrne hrl hcell hmem hrd
 obtain ⟨h0, rt', hrt⟩ : ∃ h0 rt', rt = h0 :: rt' := by
  cases rt with
  | nil => exact absurd rfl hrne
  | cons x l => exact ⟨x, l, rfl⟩
 have hc0 : ((rt.map inE).flatten ++ er)[0]? = some (.int .i64 h0) := by rw [hrt]; rfl
 have hhd : rt.headD 0 = h0 := by rw [hrt]; rfl
 rw [hhd] at hrd
 have hcon : ∀ (mem : List (Nat × Obj)) (W : World), SatW w (base w) noJ mem W -> (eb, Obj.cells ⟨(rt.map inE).flatten ++ er⟩ 3 (0, 0)) ∈ mem -> Calls Tryz.prog 31 ⟨[.slice (some ⟨eb, 0, none⟩) rt.length ec, .int .i64 o]⟩ W fun e w' => e = .returned (.bool (decide (o ∈ rt))) /\ Below W.heap.size W w' := fun mem W hW hm =>
  contains31_calls o (some ⟨eb, 0, none⟩) ec rt W (hW.rows hm rfl (fun r hr => by obtain ⟨y, _, rfl⟩ := List.mem_map.1 hr; rfl)) (by omega)
 have hmem2 : ∀ l : List (Nat × Obj), (eb, Obj.cells ⟨(rt.map inE).flatten ++ er⟩ 3 (0, 0)) ∈ (gM RzE.v 30 es bl r ++ (es.flatMap RzE.m ++ l)) := fun l => List.mem_append_right _ (List.mem_append_left _ hmem)
 have hrtp : 0 < rt.length := List.length_pos_iff.2 hrne
 clear hcod hfit hhd
 rw [hAe' hes, gM_ne hes] at *
 have hin1 : (eb, Obj.cells ⟨(rt.map inE).flatten ++ er⟩ 3 (0, 0)) ∈ ((b8, Obj.cells ⟨[.int .i64 no, .slice Ab cl.length kb, .slice none 0 0, gSl (rdL rows t k) bd cd]⟩ 38 (0, 0)) :: ([(bl, Obj.cells ⟨(es.map RzE.v).flatten ++ r⟩ 30 (0, 0))] ++ (es.flatMap RzE.m ++ (gM nE 3 cl bc rc ++ gM inE 3 (rdL rows t k) bd rd)))) := List.mem_cons_of_mem _ (List.mem_append_right [_] (List.mem_append_left _ hmem))
 have hcon := fun (W : World) (hW : SatW w (base w) noJ _ W) => hcon _ W hW hin1
 repeat (first|refine lVa rfl rfl (v_load_at (b := eb) rfl hin1 rfl rfl hc0) ?_|refine lVa rfl rfl (by first|exact pEv rfl|exact vL0 rfl (by assumption) rfl (by rfl)|exact v_index rfl rfl rfl rfl (by omega) (by omega) (by with_reducible first|exact idx1 _|exact idx2 _ _|exact idx5 _|exact idx6 _ _|fail)|exact v_load_at rfl (by repeat constructor) rfl rfl (by first|assumption|fail)|fail) ?_|refine lNi ?_|refine cRg ?_|refine cSq ?_|refine xTh ?_|refine c_dec_t rfl (by first|omega|fail) ?_|refine cBl ?_|refine cSk ?_|fail)
 by_cases hin : o ∈ rt
 ·rw [decide_eq_true hin] at hcon
  have hrd' : rdL rows t k ++ [o] = rdL rows t (k + 1) := by rw [hrd, if_pos hin]
  refine r_call rfl rfl rfl (fun W hW => hcon W hW) ?_
  repeat (first|refine lVa rfl rfl (by first|exact pEv rfl|exact vLd rfl (by repeat constructor) rfl (by rfl)|exact vL0 rfl (by assumption) rfl (by rfl)|exact v_index rfl rfl rfl rfl (by omega) (by omega) (by with_reducible first|exact idx2 _ _|exact idx6 _ _|fail)|fail) ?_|refine lNi ?_|refine cRg ?_|refine cSq ?_|refine xTh ?_|refine l_skip rfl rfl ?_|refine r_buildSlice rfl rfl rfl rfl rfl rfl (by rfl) (fun _ => ?_)|refine c_true rfl ?_|refine c_false rfl ?_|refine cSk ?_|fail)
  refine r_appendZ (f := inE) (e := 3) (sz := 1) (xs := rdL rows t k) (ys := [o]) (m := 1) rfl rfl rfl rfl rfl rfl rfl (.inr ⟨_, 0, rfl, news_own (by repeat constructor)⟩) (perm_t3 (F := es.flatMap RzE.m) (C := gM nE 3 cl bc rc) (R := gM inE 3 (rdL rows t k) bd rd)) (hgd' ()) inE_rows rfl rfl (by omega) (by unfold maxLen; omega) (fun b9 c9 r9 hg9 => ?_)
  rw [hrd'] at hg9 ⊢
  have hg9' := fun (_ : Unit) => hg9
  clear hg9
  refine l_perm perm_r3 ?_
  repeat (first|refine rSt (vs := [_]) rfl rfl rfl gSl_cells rfl rfl gSl_one (by repeat constructor) (by rfl) ?_|refine lVa rfl rfl (by first|exact v_add rfl rfl (by omega) (by omega)|exact pEv rfl|fail) ?_|refine lNi ?_|refine cRg ?_|refine xTh ?_|refine x_block ?_|fail)
  exact x_back ⟨k + 1, b9, c9, r9⟩ ⟨hlt, hg9' ()⟩ (by simp only; omega) (by repeat (first|exact .nil|refine .cons rfl (by first|rfl|(congr 1; done)|exact congrArg _ (by omega)|(simp; done)) ?_)) (.drop (.keep rfl (.keep rfl (.refl _))))
 ·rw [decide_eq_false hin] at hcon
  have hrd' : rdL rows t k ++ [h0] = rdL rows t (k + 1) := by rw [hrd, if_neg hin]
  refine r_call rfl rfl rfl (fun W hW => hcon W hW) ?_
  repeat (first|refine lVa rfl rfl (by first|exact pEv rfl|exact vLd rfl (by repeat constructor) rfl (by rfl)|fail) ?_|refine lNi ?_|refine cRg ?_|refine cSq ?_|refine xTh ?_|refine l_skip rfl rfl ?_|refine r_buildSlice rfl rfl rfl rfl rfl rfl (by rfl) (fun _ => ?_)|refine c_false rfl ?_|refine cSk ?_|fail)
  refine r_appendZ (f := inE) (e := 3) (sz := 1) (xs := rdL rows t k) (ys := [h0]) (m := 1) rfl rfl rfl rfl rfl rfl rfl (.inr ⟨_, 0, rfl, news_own (by repeat constructor)⟩) (perm_t3 (F := es.flatMap RzE.m) (C := gM nE 3 cl bc rc) (R := gM inE 3 (rdL rows t k) bd rd)) (hgd' ()) inE_rows rfl rfl (by omega) (by unfold maxLen; omega) (fun b9 c9 r9 hg9 => ?_)
  rw [hrd'] at hg9 ⊢
  have hg9' := fun (_ : Unit) => hg9
  clear hg9
  refine l_perm perm_r3 ?_
  repeat (first|refine rSt (vs := [_]) rfl rfl rfl gSl_cells rfl rfl gSl_one (by repeat constructor) (by rfl) ?_|refine lVa rfl rfl (by first|exact v_add rfl rfl (by omega) (by omega)|exact pEv rfl|fail) ?_|refine lNi ?_|refine cRg ?_|refine xTh ?_|refine x_block ?_|fail)
  exact x_back ⟨k + 1, b9, c9, r9⟩ ⟨hlt, hg9' ()⟩ (by simp only; omega) (by repeat (first|exact .nil|refine .cons rfl (by first|rfl|(congr 1; done)|exact congrArg _ (by omega)|(simp; done)) ?_)) (.drop (.keep rfl (.keep rfl (.refl _))))
end R41
end Go.Proofs

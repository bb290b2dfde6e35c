/- Editions: the states of the root, at all loci, walked. -/
import Derived.Test.YtdegengehbdelaaGreatDoorSfF
set_option maxRecDepth 100000
set_option maxHeartbeats 400000000
set_option linter.unusedSectionVars false
set_option linter.unusedVariables false
set_option linter.unusedSimpArgs false
namespace Go.Proofs
open Go.RowKit Go.Kin Go.Kin.Se Go.Kin.Cl
namespace R41
structure RzK (ls : List (List Int)) (es : List RzE) (c : Nat) (r : List Value) : Prop where
 ls : es.map (·.l) = ls
 ok : ∀ e ∈ es, gOK inE 1 e.l e.c e.r
 gr : gOK RzE.v 1 es c r
def RzI (ls : List (List Int)) : Type := { p : List RzE × Nat × Nat × List Value // RzK ls p.1 p.2.2.1 p.2.2.2 }
def RzI.v {ls : List (List Int)} (i : RzI ls) : Value := .tuple ⟨[gSl i.1.1 i.1.2.1 i.1.2.2.1, .int .i64 0]⟩
def RzI.m {ls : List (List Int)} (i : RzI ls) : List (Nat × Obj) := gM RzE.v 30 i.1.1 i.1.2.1 i.1.2.2.2 ++ i.1.1.flatMap RzE.m
def rtsL (rows : List RV) (t : Tr) (m : Nat) : List (List Int) := (List.range m).map (rtL rows t)
theorem rtsL_succ {rows : List RV} {t : Tr} {m : Nat} : rtsL rows t (m + 1) = rtsL rows t m ++ [rtL rows t m] := by
 unfold rtsL
 rw [List.range_succ, List.map_append]; rfl
theorem lstN_succ {rows : List RV} {j i : Nat} {v : RV} (h : rows[i]? = some v) : lstN rows j (i + 1) = lstN rows j i ++ (cdN j v).toList := by
 unfold lstN
 rw [List.take_add_one, h]
 show _ :: List.filterMap _ (rows.take i ++ [v]) = _
 rw [List.filterMap_append, List.cons_append]
 congr 2
theorem perm_tl {α : Type} {X G R : List α} : (X ++ (G ++ R)).Perm (R ++ (X ++ G)) := by
 rw [<- List.append_assoc]
 exact List.perm_append_comm
theorem perm_hd {α : Type} {X E F R : List α} : (X ++ ((E ++ F) ++ R)).Perm (E ++ (X ++ (F ++ R))) := by
 rw [List.append_assoc]
 exact perm_l
def rtV (l : List Nat) (_ : Array Value) (π : Pi) : Value := .slice (some ⟨π.b, 0, none⟩) l.length (capF 1 l.length π.rest)
def rtO (l : List Nat) (_ : Array Value) (π : Pi) : List (Nat × Obj) := [(π.b, .cells ⟨flN l ++ restF 1 l.length π.rest⟩ 3 (0, 0))]
theorem rtQ_L {l : List Nat} {W W' : World} {e : Ending} (vs : Array Value) (h : RtQ l W e W') : ∃ π, e = .returned (rtV l vs π) /\ ∀ {w0 : World} {D : Nat -> Prop} (m : List (Nat × Obj)), SatW w0 D noJ m W -> SatW w0 D noJ (rtO l vs π ++ m) W' := by
 obtain ⟨⟨⟨b, c, r⟩, hg⟩, h1, h2⟩ := h
 obtain ⟨e1, e2⟩ := growF hg (by decide)
 simp only at e1 e2 h1 h2
 refine ⟨⟨b, r, [], []⟩, ?_, fun m hm => ?_⟩
 ·unfold rtV
  simp only
  rw [e1]; exact h1
 ·unfold rtO
  simp only
  rw [e2]
  exact satW_frame (pre := []) hm h2
structure ZSt where
 k : Nat
 es : List RzE
 b : Nat
 c : Nat
 r : List Value
structure LSt where
 i : Nat
 b : Nat
 c : Nat
 r : List Value
theorem roots25_calls (A : Option Addr) (cap : Nat) (rows : List RV) (m : Nat) (Ac : Option Addr) (capc : Nat) (cl : List Nat) (t : Tr) (w : World) (hA : TabIn w A rows) (hC : Kin.At w Ac 1 (cl.map nE)) (hg : Glob w) (hO : OkTab rows m) (hT : OkTr rows.length cl t) (hk : chkB rows.length cl = true)
  (hroot : ∀ l r, t = .nd l r -> t.st ∈ cl) :
  Calls Tryz.prog 25 ⟨[.slice A rows.length cap, .slice Ac cl.length capc]⟩ w (FrQ [] (RzI.v (ls := rtsL rows t m)) (RzI.m (ls := rtsL rows t m)) w) := by
 have n1 := hO.n1
 have n5 := hO.n5
 have m64 := hO.m64
 have h9 := fun W (hW : Below w.heap.size w W) => Cost9_calls A cap rows m Ac capc cl t W (hA.later hW) (hC.later hW) (hg.later hW) hO hT hk
 obtain ⟨n, hn⟩ : ∃ n, rows.length = n := ⟨_, rfl⟩
 obtain ⟨v0, hv0⟩ : ∃ v, rows[0]? = some v := ⟨_, List.getElem?_eq_getElem (by omega)⟩
 obtain ⟨b0, o0, hA0, hc0⟩ := hA.ar 0 (rvE v0) (by rw [List.getElem?_map, hv0]; rfl)
 have x0 := ext_of hc0
 rw [Nat.mul_one, Nat.add_zero, hO.len v0 (List.mem_of_getElem? hv0)] at x0
 have hcod : ∀ v ∈ rows, ∀ j, 0 <= v.l.getD j lost := fun v hv j => by
  rw [List.getD_eq_getElem?_getD]
  cases h : v.l[j]? with
  | none => show 0 <= lost; unfold lost; omega
  | some s => exact (hO.cod v hv s (List.mem_of_getElem? h)).1
 have hcl := hT.cll
 refine fEn Tryz.func25 rfl Tryz.ntmps25 rfl rfl (sWn w) ?_
 rw [hn] at n1 n5 h9 ⊢
 repeat (first|refine lVa rfl rfl (by first|exact pEv rfl|exact vLd rfl (by repeat constructor) rfl (by rfl)|fail) ?_|refine lNi ?_|refine cRg ?_|refine cSq ?_|refine xTh ?_|refine r_box rfl rfl rfl rfl (fun _ => ?_)|fail)
 rename_i b2 b3
 refine r_call rfl rfl rfl (fun W hW => h9 W hW.below) ?_
 rw [hA0]
 repeat (first|refine lVa rfl rfl (by first|exact pEv rfl|exact vLd rfl (by repeat constructor) rfl (by rfl)|exact vL0 rfl (by assumption) rfl (by rfl)|exact v_index rfl rfl rfl rfl (by omega) (by omega) (by with_reducible first|exact idx6 _ _|fail)|fail) ?_|refine lNi ?_|refine cRg ?_|refine cSq ?_|refine xTh ?_|refine c_false rfl ?_|refine cBl ?_|refine cSk ?_|fail)
 refine c_loop (ι := ZSt) (fun z => z.k <= m /\ RzK (rtsL rows t z.k) z.es z.c z.r) (fun z => [(2, .pointer (some ⟨b2, 0, none⟩)), (3, .pointer (some ⟨b3, 0, none⟩)), (4, gSl z.es z.b z.c), (5, .int .i64 0), (29, .int .i64 m), (30, .int .i64 z.k)])
  (fun z => (b3, .cells ⟨[.slice Ac cl.length capc]⟩ 30 (0, 0)) :: (b2, .cells ⟨[.slice (some ⟨b0, o0, none⟩) n cap]⟩ 26 (0, 0)) :: (gM RzE.v 30 z.es z.b z.r ++ z.es.flatMap RzE.m)) (fun z => m - z.k) ⟨0, [], 0, 0, []⟩ ⟨Nat.zero_le _, rfl, fun e he => (by cases he), fun h => absurd rfl h⟩ (by repeat (first|exact .nil|refine .cons rfl (by first|rfl|(congr 1; done)|exact congrArg _ (by omega)|(simp; done)) ?_)) (.keep rfl (.keep rfl .nil)) ?_
 rintro ⟨k, es, bl, cl', rl⟩ ⟨hkm, hzk⟩
 simp only at hkm hzk ⊢
 have hzk' := fun (_ : Unit) => hzk
 clear hzk
 by_cases hlt : k < m
 rotate_left
 ·have hke : k = m := by omega
  subst hke
  repeat (first|refine lVa rfl rfl (by first|exact pEv rfl|fail) ?_|refine lNi ?_|refine cRg ?_|refine cSq ?_|refine xTh ?_|refine c_dec_f rfl (by first|omega|fail) ?_|refine c_ret ?_|refine c_exit ?_|refine xTe ?_|refine xBs ?_|fail)
  exact x_ret rfl rfl (.tmp rfl (.tmp rfl .nil)) rfl (fun W hW => ⟨⟨(es, bl, cl', rl), hzk' ()⟩, rfl, (frQ_base hW).mono ((List.sublist_cons_self _ _).trans (List.sublist_cons_self _ _))⟩)
 repeat (first|refine lVa rfl rfl (by first|exact pEv rfl|exact vLd rfl (by repeat constructor) rfl (by rfl)|fail) ?_|refine lNi ?_|refine cRg ?_|refine cSq ?_|refine xTh ?_|refine r_alloc rfl rfl rfl (by first|exact aggL|fail) (fun _ => ?_)|refine rSt rfl rfl rfl rfl rfl rfl rfl (by repeat constructor) (by rfl) ?_|refine r_buildSlice rfl rfl rfl rfl rfl rfl (by rfl) (fun _ => ?_)|refine c_dec_t rfl (by first|omega|fail) ?_|refine cBl ?_|refine cSk ?_|fail)
 rename_i b6 bs b7
 refine c_loop (ι := LSt) (fun s => s.i <= n /\ Grow 1 (lstN rows k s.i).length (flN (lstN rows k s.i)) s.c s.r) (fun s => [(2, .pointer (some ⟨b2, 0, none⟩)), (3, .pointer (some ⟨b3, 0, none⟩)), (4, gSl es bl cl'), (5, .int .i64 0), (29, .int .i64 m), (30, .int .i64 k), (6, .pointer (some ⟨b6, 0, none⟩)), (7, .pointer (some ⟨b7, 0, none⟩)), (34, .slice (some ⟨b0, o0, none⟩) n cap), (35, .int .i64 n), (36, .int .i64 s.i)])
  (fun s => (b7, .cells ⟨[.slice (some ⟨s.b, 0, none⟩) (lstN rows k s.i).length s.c]⟩ 30 (0, 0)) :: (s.b, .cells ⟨flN (lstN rows k s.i) ++ s.r⟩ 3 (0, 0)) :: (b6, .cells ⟨[.int .i64 k]⟩ 3 (0, 0)) :: (b3, .cells ⟨[.slice Ac cl.length capc]⟩ 30 (0, 0)) :: (b2, .cells ⟨[.slice (some ⟨b0, o0, none⟩) n cap]⟩ 26 (0, 0)) :: (gM RzE.v 30 es bl rl ++ es.flatMap RzE.m)) (fun s => n - s.i) ⟨0, bs, 1, []⟩ ⟨Nat.zero_le _, rfl, rfl, Nat.le_refl _, by show 1 <= maxLen; unfold maxLen; omega⟩ (by repeat (first|exact .nil|refine .cons rfl (by first|rfl|(congr 1; done)|exact congrArg _ (by omega)|(simp; done)) ?_)) (by repeat (first|exact .nil|refine .keep (by first|rfl|assumption) ?_|refine .drop ?_|exact MSub.refl _)) ?_
 rintro ⟨i, bL, cL, rL⟩ ⟨hi, hgL⟩
 simp only at hi hgL ⊢
 have hLl := lstN_len rows k i
 rw [hn] at hLl
 by_cases hli : i < n
 ·obtain ⟨v, hv⟩ : ∃ v, rows[i]? = some v := ⟨_, List.getElem?_eq_getElem (by omega)⟩
  have hvm := List.mem_of_getElem? hv
  obtain ⟨_, _, e2, hcr⟩ := hA.ar i (rvE v) (by rw [List.getElem?_map, hv]; rfl)
  rw [hA0] at e2
  cases e2
  have y1 := ext_of hcr
  rw [Nat.mul_one] at y1
  have hvl := hO.len v hvm
  rw [hvl] at y1
  obtain ⟨o, ho⟩ : ∃ o, v.l[k]? = some o := ⟨_, List.getElem?_eq_getElem (by omega)⟩
  obtain ⟨bv, ov, hAv, hcv⟩ := hA.row v hvm k (inE o) (by rw [List.getElem?_map, ho]; rfl)
  have y2 := ext_of hcv
  rw [Nat.mul_one] at y2
  rw [hAv] at y1
  have hod := hO.cod v hvm o (List.mem_of_getElem? ho)
  have hgo : v.l.getD k lost = o := by rw [List.getD_eq_getElem?_getD, ho]; rfl
  have hsc := lstN_succ (j := k) hv
  unfold cdN at hsc
  rw [hgo] at hsc
  have hls : lost = 8589934592 := rfl
  obtain ⟨on, hon⟩ : ∃ on : Nat, o = on := ⟨o.toNat, by omega⟩
  obtain ⟨L, hL⟩ : ∃ L, lstN rows k i = L := ⟨_, rfl⟩
  rw [hL] at hgL hLl hsc ⊢
  have hgL' := fun (_ : Unit) => hgL
  clear hgL
  by_cases hlo : o = lost
  ·rw [if_pos hlo] at hsc
   have hsc : lstN rows k (i + 1) = L := by rw [hsc]; simp
   rw [hls] at hlo
   repeat (first|refine lVa rfl rfl (by first|exact v_add rfl rfl (by omega) (by omega)|exact pEv rfl|exact vLd rfl (by repeat constructor) rfl (by rfl)|exact vL0 rfl (by assumption) rfl (by rfl)|exact v_index rfl rfl rfl rfl (by omega) (by omega) (by with_reducible first|exact idx2 _ _|fail)|fail) ?_|refine lNi ?_|refine cRg ?_|refine cSq ?_|refine xTh ?_|refine c_dec_t rfl (by first|omega|fail) ?_|refine c_dec_f rfl (by first|omega|exact fun h => h rfl|fail) ?_|refine cBl ?_|refine cSk ?_|refine x_block ?_|fail)
   exact x_back ⟨i + 1, bL, cL, rL⟩ ⟨hli, by simp only [hsc]; exact hgL' ()⟩ (by simp only; omega) (by repeat (first|exact .nil|refine .cons rfl (by first|rfl|(congr 1; done)|exact congrArg _ (by omega)|(simp; done)) ?_)) (by simp only [hsc]; exact .refl _)
  ·rw [if_neg hlo] at hsc
   have hsc : lstN rows k (i + 1) = L ++ [on] := by rw [hsc, hon]; simp
   rw [hls] at hlo
   repeat (first|refine lVa rfl rfl (by first|exact pEv rfl|exact vLd rfl (by repeat constructor) rfl (by rfl)|exact vL0 rfl (by assumption) rfl (by rfl)|exact v_index rfl rfl rfl rfl (by omega) (by omega) (by with_reducible first|exact idx2 _ _|fail)|fail) ?_|refine lNi ?_|refine cRg ?_|refine cSq ?_|refine xTh ?_|refine r_buildSlice rfl rfl rfl rfl rfl rfl (by rfl) (fun _ => ?_)|refine c_dec_t rfl (by first|omega|fail) ?_|refine cBl ?_|refine cSk ?_|fail)
   refine r_append (xs := flN L) (ys := [.int .i64 o]) (m := 1) rfl rfl rfl rfl rfl rfl (news_own (by repeat constructor)) (.tail (.tail .head)) (hgL' ()) rfl rfl rfl (by omega) (by unfold maxLen; omega) (fun b8 c8 r8 hg8 => ?_)
   have e1 : flN L ++ [.int .i64 o] = flN (L ++ [on]) := by unfold flN; rw [List.map_append, hon]; rfl
   have e2 : L.length + 1 = (L ++ [on]).length := by rw [List.length_append]; rfl
   rw [e1, e2] at hg8
   rw [e1, e2, <- hsc]
   rw [<- hsc] at hg8
   have hg8' := fun (_ : Unit) => hg8
   clear hg8
   repeat (first|refine lVa rfl rfl (by first|exact v_add rfl rfl (by omega) (by omega)|exact pEv rfl|fail) ?_|refine lNi ?_|refine cRg ?_|refine xTh ?_|refine rSt rfl rfl rfl rfl rfl rfl rfl (by repeat constructor) (by rfl) ?_|refine x_block ?_|fail)
   refine x_perm ((List.Perm.cons _ (.swap _ _ _)).trans (.swap _ _ _)) ?_
   exact x_back ⟨i + 1, b8, c8, r8⟩ ⟨hli, hg8' ()⟩ (by simp only; omega) (by repeat (first|exact .nil|refine .cons rfl (by first|rfl|(congr 1; done)|exact congrArg _ (by omega)|(simp; done)) ?_)) (by repeat (first|exact .nil|refine .keep (by first|rfl|assumption) ?_|refine .drop ?_|exact MSub.refl _))
 have hie : i = n := by omega
 rw [hie] at hgL hLl ⊢
 obtain ⟨L, hL⟩ : ∃ L, lstN rows k n = L := ⟨_, rfl⟩
 have hSe : stS rows k = Lib.compact (cst (isrt L)) := by unfold stS; rw [hn, hL]
 rw [hL] at hgL hLl ⊢
 have hL1 : 1 <= L.length := by rw [<- hL]; unfold lstN; simp
 have hcL := hgL.le
 clear hgL
 repeat (first|refine lVa rfl rfl (by first|exact pEv rfl|exact vLd rfl (by repeat constructor) rfl (by rfl)|fail) ?_|refine lNi ?_|refine cRg ?_|refine cSq ?_|refine xTh ?_|refine c_dec_f rfl (by first|omega|fail) ?_|refine c_exit ?_|refine xTe ?_|refine xBs ?_|fail)
 refine r_callF (pre := [(bL, .cells ⟨flN L ++ rL⟩ 3 (0, 0))]) rfl rfl rfl (.swap _ _ _) (fun W _ _ hW => sort50_calls L bL cL rL W (by omega) hL1 (hW _ List.mem_cons_self)) (fun _ => ?_)
 repeat (first|refine lVa rfl rfl (by first|exact vLd rfl (by repeat constructor) rfl (by rfl)|fail) ?_|refine lNi ?_|refine cRg ?_|refine cSq ?_|refine xTh ?_|fail)
 have hil := isrt_len L
 refine r_callF (ι := Unit) (v := fun _ => .slice (some ⟨bL, 0, none⟩) (stS rows k).length cL) (post := fun _ => [(bL, .cells ⟨flZ (stS rows k) ++ (List.replicate (L.length - (stS rows k).length) (.int .i64 0) ++ rL)⟩ 3 (0, 0))]) (pre := [(bL, .cells ⟨flN (isrt L) ++ rL⟩ 3 (0, 0))]) rfl rfl rfl (.refl _) (fun W _ _ hW => ?_) (fun _ => ?_)
 ·have := compact53_calls (cst (isrt L)) bL cL rL W (by rw [flZ_cst]; exact hW _ List.mem_cons_self) (by rw [cst_len, hil]; omega) (by rw [cst_len, hil]; exact hcL)
  rw [cst_len, hil, flZ_cst, <- hSe] at this
  exact this
 obtain ⟨rS, hrS⟩ : ∃ rS, List.replicate (L.length - (stS rows k).length) (Value.int .i64 0) ++ rL = rS := ⟨_, rfl⟩
 rw [hrS]
 have hSl := stS_len rows k
 rw [hn] at hSl
 obtain ⟨S, hS⟩ : ∃ S, stS rows k = S := ⟨_, rfl⟩
 rw [hS] at hSl ⊢
 have hown : ∀ v ∈ rows, k < v.l.length := fun v hv => by rw [hO.len v hv]; exact hlt
 have hfit : Fit S (ownR rows k) t := by rw [<- hS]; exact stS_fit (fun v hv => hcod v hv k) hT.lv
 have hrt : rtL rows t k = rts S (ownR rows k) t := by unfold rtL; rw [hS]
 clear hSe hrS hS
 have hfull : (full n : Nat) + 1 = 2 ^ n := by unfold full; have := Nat.two_pow_pos n; omega
 have hsh := shl_small n (by omega)
 have hq64 : 2 ^ n <= 2 ^ 5 := Nat.pow_le_pow_right (by omega) n5
 obtain ⟨q2, hq2⟩ : ∃ q, 2 ^ n = q := ⟨_, rfl⟩
 rw [hq2] at hfull hsh hq64
 repeat ((fail_if_success refine c_probe (id := 19) ?_); (fail_if_success refine c_probe1 (id := 19) ?_); first|refine lVa rfl rfl (by first|exact pEv rfl|fail) ?_|refine lNi ?_|refine cRg ?_|refine cSq ?_|refine xTh ?_|refine r_alloc rfl rfl rfl (by first|exact aggL|fail) (fun _ => ?_)|refine rSt rfl rfl rfl rfl rfl rfl rfl (by repeat constructor) (by rfl) ?_|fail)
 rename_i b11
 refine cSq ?_
 refine c_new 0 1 [(5, .calL [0] (rtV (S.map (rcF S (ownR rows k) t))) (rtO (S.map (rcF S (ownR rows k) t))))] [(5, [0])] [] rfl (by decide +kernel) rfl ?_
 repeat (first|refine e_val rfl rfl rfl rfl (v_shlA rfl rfl (by omega) hsh) ?_|refine e_val rfl rfl rfl rfl (by first|exact v_sub rfl rfl (by omega) (by omega)|exact pEv rfl|exact vLd rfl (by repeat constructor) rfl (by rfl)|fail) ?_|fail)
 have efull : ((q2 : Nat) : Int) - 1 = ((full n : Nat) : Int) := by omega
 refine e_callvL rfl rfl rfl rfl rfl rfl rfl (by decide) (fun _ => Nat.le_refl _) rfl (fun W hW => ?_) (fun π => ?_)
 ·rw [efull, <- hn, <- hT.st]
  refine (rbelow_calls ⟨b7, b2, b6, b3, b11, k, some ⟨bL, 0, none⟩, cL, some ⟨b0, o0, none⟩, cap, Ac, capc, rows, cl, S⟩ ⟨by rw [hn]; exact n5, hown, by show k < 1000; omega, fun v hv => by rw [hO.len v hv]; omega, hcl, by show S.length <= 100; omega, hfit.1, hk⟩ t hT.isT hroot hfit hT.lv hT.sz W ?_).mono fun e W' h => (by
   obtain ⟨π, h1, h2⟩ := rtQ_L ⟨_⟩ h
   exact ⟨π, h1, fun m hm => h2 m hm⟩)
  refine ⟨hW.cellAt (b := b7) (by repeat constructor) 0, by rw [hn]; exact hW.cellAt (b := b2) (by repeat constructor) 0, hW.cellAt (b := b6) (by repeat constructor) 0, hW.cellAt (b := b3) (by repeat constructor) 0, hW.cellAt (b := b11) (by repeat constructor) 0, ?_, ?_, ?_, ?_⟩
  ·exact hW.rows (b := bL) (rest := rS) (by repeat constructor) (by rw [flZ_eq]) (fun r hr => by obtain ⟨y, _, rfl⟩ := List.mem_map.1 hr; rfl)
  ·rw [<- hA0]; exact (hA.later hW.below).ar
  ·exact fun v hv => (hA.later hW.below).row v hv
  ·exact hC.later hW.below
 obtain ⟨bv, hbv⟩ : ∃ b, π.b = b := ⟨_, rfl⟩
 unfold rtV rtO
 rw [hbv]
 obtain ⟨rc, hrc⟩ : ∃ rc, rcF S (ownR rows k) t = rc := ⟨_, rfl⟩
 have hbest := rc_best hfit hT.sz
 have hroot' := fun s => rc_root hfit hT.sz s
 have hle := fun s => rcF_le hfit hT.sz s
 rw [hrc] at hbest hroot' hle ⊢
 obtain ⟨cv, hcv⟩ : ∃ c, capF 1 (S.map rc).length π.rest = c := ⟨_, rfl⟩
 obtain ⟨rv, hrv⟩ : ∃ c, restF 1 (S.map rc).length π.rest = c := ⟨_, rfl⟩
 rw [hcv, hrv]
 have hSne : S.map rc ≠ [] := fun e => hfit.1 (List.map_eq_nil_iff.1 e)
 have hnv : nev = 1073741824 := rfl
 repeat (first|refine lVa rfl rfl (by first|exact pEv rfl|fail) ?_|refine cRg ?_|refine cSq ?_|refine xTh ?_|refine e_val rfl rfl rfl rfl (by first|exact pEv rfl|fail) ?_|refine e_nil rfl ?_|fail)
 refine r_call rfl rfl rfl (fun W hW => min57b_calls (some ⟨bv, 0, none⟩) cv (S.map rc) W (hW.rows (b := bv) (rest := rv) (by repeat constructor) (by rw [flN_eq]) (fun r hr => by obtain ⟨y, _, rfl⟩ := List.mem_map.1 hr; rfl)) hSne (by rw [List.length_map]; omega) (fun x hx => by obtain ⟨y, _, rfl⟩ := List.mem_map.1 hx; have := hle y; omega)) ?_
 rw [hbest, List.length_map]
 obtain ⟨best, hbe⟩ : ∃ b, prc S (ownR rows k) t = b := ⟨_, rfl⟩
 have hrts : rtL rows t k = S.filter (fun s => decide (rc s = best)) := by
  rw [hrt]
  unfold rts
  rw [hbe]
  refine List.filter_congr fun s _ => decide_eq_decide.2 ?_
  rw [<- hbe]; exact (hroot' s).symm
 rw [hbe]
 clear hroot' hbest hrt hfit hown hrc hbe hcv hrv hbv
 obtain ⟨P, hP⟩ : ∃ P : Int -> Bool, P = fun s => decide (rc s = best) := ⟨_, rfl⟩
 have hPe : ∀ s, P s = decide (rc s = best) := fun s => by rw [hP]
 rw [<- hP] at hrts
 clear hP
 repeat (first|refine lVa rfl rfl (by first|exact pEv rfl|exact vLd rfl (by repeat constructor) rfl (by rfl)|fail) ?_|refine lNi ?_|refine cRg ?_|refine cSq ?_|refine xTh ?_|refine cBl ?_|fail)
 refine c_loop (ι := RzE × Nat) (fun s => s.2 <= S.length /\ s.1.l = (S.take s.2).filter P /\ gOK inE 1 s.1.l s.1.c s.1.r) (fun s => [(2, .pointer (some ⟨b2, 0, none⟩)), (3, .pointer (some ⟨b3, 0, none⟩)), (4, gSl es bl cl'), (5, .int .i64 0), (29, .int .i64 m), (30, .int .i64 k), (7, .pointer (some ⟨b7, 0, none⟩)), (12, .slice (some ⟨bv, 0, none⟩) S.length cv), (13, .int .i64 best), (14, gSl s.1.l s.1.b s.1.c), (64, .slice (some ⟨bL, 0, none⟩) S.length cL), (65, .int .i64 S.length), (66, .int .i64 s.2)])
  (fun s => (bv, .cells ⟨flN (S.map rc) ++ rv⟩ 3 (0, 0)) :: (bL, .cells ⟨flZ S ++ rS⟩ 3 (0, 0)) :: (b3, .cells ⟨[.slice Ac cl.length capc]⟩ 30 (0, 0)) :: (b2, .cells ⟨[.slice (some ⟨b0, o0, none⟩) n cap]⟩ 26 (0, 0)) :: ((gM RzE.v 30 es bl rl ++ es.flatMap RzE.m) ++ s.1.m)) (fun s => S.length - s.2) (⟨[], 0, 0, []⟩, 0) ⟨Nat.zero_le _, rfl, fun h => absurd rfl h⟩ (by repeat (first|exact .nil|refine .cons rfl (by first|rfl|(congr 1; done)|exact congrArg _ (by omega)|(simp; done)) ?_))
  (.keep rfl (.drop (.keep rfl (.drop (.drop (.keep rfl (.keep rfl (by show MSub _ (_ ++ []); rw [List.append_nil]; exact .refl _)))))))) ?_
 rintro ⟨⟨R, bR, cR, rR⟩, i⟩ ⟨hi, hR, hgR⟩
 simp only at hi hR hgR ⊢
 have hgR' := fun (_ : Unit) => hgR
 clear hgR
 have hRl : R.length <= S.length := by
  rw [hR]
  exact Nat.le_trans (List.length_filter_le _ _) (by rw [List.length_take]; omega)
 by_cases hli : i < S.length
 ·obtain ⟨s, hs⟩ : ∃ s, S[i]? = some s := ⟨_, List.getElem?_eq_getElem hli⟩
  have hz1 : (flZ S ++ rS)[i]? = some (.int .i64 s) := by
   rw [List.getElem?_append_left (by rw [flZ_len]; exact hli)]
   unfold flZ
   rw [List.getElem?_map, hs]; rfl
  have hz2 : (flN (S.map rc) ++ rv)[i]? = some (.int .i64 (rc s : Nat)) := flN_get (by rw [List.getElem?_map, hs]; rfl) rv
  have hsc : (S.take (i + 1)).filter P = R ++ (if P s then [s] else []) := by
   rw [List.take_add_one, hs, hR]
   show List.filter P (S.take i ++ [s]) = _
   rw [List.filter_append, List.filter_cons, List.filter_nil]
  rw [hPe] at hsc
  obtain ⟨u, hu⟩ : ∃ u, rc s = u := ⟨_, rfl⟩
  rw [hu] at hz2 hsc
  by_cases heq : u = best
  ·rw [decide_eq_true heq, if_pos rfl] at hsc
   obtain ⟨AR, kR, hAR⟩ := gSl_len (l := R) (b := bR) (cap := cR)
   repeat (first|refine lVa rfl rfl (by first|exact pEv rfl|exact v_index rfl rfl rfl rfl (by omega) (by omega) (by with_reducible first|exact idx1 _|fail)|exact v_load_at rfl (by repeat constructor) rfl rfl (by first|assumption|fail)|fail) ?_|refine lNi ?_|refine cRg ?_|refine cSq ?_|refine xTh ?_|refine r_buildSlice rfl rfl rfl rfl rfl rfl (by rfl) (fun _ => ?_)|refine c_dec_t rfl (by first|omega|fail) ?_|refine cBl ?_|refine cSk ?_|fail)
   refine r_appendZ (f := inE) (e := 3) (sz := 1) (xs := R) (ys := [s]) (m := 1) rfl rfl rfl rfl rfl rfl rfl (.inr ⟨_, 0, rfl, news_own (by repeat constructor)⟩) (perm_tl (X := [_, _, _, _, _])) (hgR' ()) inE_rows rfl rfl (by omega) (by unfold maxLen; omega) (fun b8 c8 r8 hg8 => ?_)
   have hg8' := fun (_ : Unit) => hg8
   clear hg8
   repeat (first|refine lVa rfl rfl (by first|exact v_add rfl rfl (by omega) (by omega)|exact pEv rfl|fail) ?_|refine lNi ?_|refine cRg ?_|refine xTh ?_|refine x_block ?_|fail)
   refine x_perm List.perm_append_comm ?_
   exact x_back (⟨R ++ [s], b8, c8, r8⟩, i + 1) ⟨hli, hsc.symm, hg8' ()⟩ (by simp only; omega) (by repeat (first|exact .nil|refine .cons rfl (by first|rfl|(congr 1; done)|exact congrArg _ (by omega)|(simp; done)) ?_)) (.drop (.keep rfl (.keep rfl (.keep rfl (.keep rfl (.refl _))))))
  ·rw [decide_eq_false heq, if_neg (by decide), List.append_nil] at hsc
   repeat (first|refine lVa rfl rfl (by first|exact v_add rfl rfl (by omega) (by omega)|exact pEv rfl|exact v_index rfl rfl rfl rfl (by omega) (by omega) (by with_reducible first|exact idx1 _|fail)|exact v_load_at rfl (by repeat constructor) rfl rfl (by first|assumption|fail)|fail) ?_|refine lNi ?_|refine cRg ?_|refine cSq ?_|refine xTh ?_|refine c_dec_t rfl (by first|omega|fail) ?_|refine c_dec_f rfl (by first|omega|fail) ?_|refine cBl ?_|refine cSk ?_|refine x_block ?_|fail)
   exact x_back (⟨R, bR, cR, rR⟩, i + 1) ⟨hli, by rw [hsc], hgR' ()⟩ (by simp only; omega) (by repeat (first|exact .nil|refine .cons rfl (by first|rfl|(congr 1; done)|exact congrArg _ (by omega)|(simp; done)) ?_)) (.keep rfl (.keep rfl (.keep rfl (.keep rfl (.refl _)))))
 have hie : i = S.length := by omega
 subst hie
 rw [List.take_length, <- hrts] at hR
 obtain ⟨AR, kR, hAR⟩ := gSl_len (l := R) (b := bR) (cap := cR)
 have hys : (([⟨R, bR, cR, rR⟩] : List RzE).map RzE.v).flatten = [.slice AR R.length kR] := by show [gSl R bR cR] = _; rw [hAR]
 have hel : es.length = k := by
  have := congrArg List.length (hzk' ()).ls
  unfold rtsL at this
  rw [List.length_map, List.length_map, List.length_range] at this
  exact this
 rw [hAR]
 repeat (first|refine lVa rfl rfl (by first|exact pEv rfl|fail) ?_|refine lNi ?_|refine cRg ?_|refine cSq ?_|refine xTh ?_|refine r_buildSlice rfl rfl rfl rfl rfl rfl (by rfl) (fun _ => ?_)|refine c_dec_f rfl (by first|omega|fail) ?_|refine c_exit ?_|refine xTe ?_|refine xBs ?_|fail)
 refine r_appendZ (f := RzE.v) (e := 30) (sz := 1) (xs := es) (ys := [⟨R, bR, cR, rR⟩]) (m := 1) rfl rfl rfl rfl rfl rfl rfl (by rw [hys]; exact .inr ⟨_, 0, rfl, news_own (by repeat constructor)⟩) (perm_hd (X := [_, _, _, _, _])) (hzk' ()).gr rzE_len gSl_one rfl (by omega) (by unfold maxLen; omega) (fun b8 c8 r8 hg8 => ?_)
 have hg8' := fun (_ : Unit) => hg8
 clear hg8
 repeat (first|refine lVa rfl rfl (by first|exact v_add rfl rfl (by omega) (by omega)|exact pEv rfl|fail) ?_|refine lNi ?_|refine cRg ?_|refine xTh ?_|refine x_block ?_|fail)
 refine x_perm perm_l ?_
 refine x_back ⟨k + 1, es ++ [⟨R, bR, cR, rR⟩], b8, c8, r8⟩ ⟨hlt, ?_, ?_, hg8' ()⟩ (by simp only; omega) (by repeat (first|exact .nil|refine .cons rfl (by first|rfl|(congr 1; done)|exact congrArg _ (by omega)|(simp; done)) ?_)) (.drop (.drop (.drop (.keep rfl (.keep rfl ?_)))))
 ·simp only
  rw [List.map_append, (hzk' ()).ls, rtsL_succ, <- hR]; rfl
 ·intro e he
  rcases List.mem_append.1 he with he | he
  ·exact (hzk' ()).ok e he
  ·rw [List.mem_singleton.1 he]; exact hgR' ()
 ·simp only [List.flatMap_append, List.flatMap_cons, List.flatMap_nil, List.append_nil]
  exact .refl _
end R41
end Go.Proofs
